/-
  What a hello's records tell: its name, or that it has none. Plain lists. No condition.
-/
import Derived.Test.YtpoheemjdieogaaGreatDoorTlsI
namespace Go.Proofs.YtpoheemjdieogaaGreatDoor
set_option linter.unusedVariables false
set_option linter.unusedSimpArgs false

theorem beN_u16 {n : Nat} (h : n < 65536) : beN (u16L n) = n := by
  unfold beN u16L
  simp only [List.foldl_cons, List.foldl_nil, UInt8.toNat_ofNat']
  omega
theorem u16L_len (n : Nat) : (u16L n).length = 2 := rfl
theorem getL_cur {bs x post : List UInt8} {s : LS} {n : Nat} (h : bs.drop s.at_ = x ++ post) (hn : x.length = n) : getL bs n s = .ok (x, { s with at_ := s.at_ + n }) := by
  unfold getL
  have hl := congrArg List.length h
  rw [List.length_drop, List.length_append] at hl
  rw [if_neg (by omega), h, List.take_append_of_le_length (by omega), List.take_of_length_le (by omega)]
theorem cur_next {bs x post : List UInt8} {a n : Nat} (h : bs.drop a = x ++ post) (hn : x.length = n) : bs.drop (a + n) = post := by
  rw [← List.drop_drop, h, ← hn, List.drop_left]
theorem numL_cur {bs x post : List UInt8} {s : LS} {n e : Nat} (h : bs.drop s.at_ = x ++ post) (hn : x.length = n) (he : s.at_ + n ≤ e) : numL bs n e s = .ok (beN x, { s with at_ := s.at_ + n }) := by
  unfold numL
  rw [if_neg (by omega), getL_cur h hn]
theorem skipL_cur {bs x post : List UInt8} {s : LS} {n e : Nat} (h : bs.drop s.at_ = x ++ post) (hn : x.length = n) (he : s.at_ + n ≤ e) : skipL bs n e s = .ok { s with at_ := s.at_ + n } := by
  unfold skipL
  rw [if_neg (by omega), getL_cur h hn]
theorem someL_cur {bs x post : List UInt8} {s : LS} {size e n : Nat} {okf : Nat → Nat → Bool} {within : Nat → Nat → LS → Except Int LS} (h : bs.drop s.at_ = x ++ post) (hn : x.length = size) (hb : beN x = n) (he : s.at_ + size + n ≤ e) (hok : okf n (e - (s.at_ + size)) = true) :
    someL bs size e okf within s = within n (s.at_ + size + n) { s with at_ := s.at_ + size } := by
  unfold someL
  rw [numL_cur h hn (by omega)]
  simp only [hb]
  rw [if_pos ⟨hok, by omega⟩]
/-- the names' list with one name -/
theorem listL_one {bs : List UInt8} {a e : Nat} {nm : ByteArray} {sn : Bool} {name low post : List UInt8} (h : bs.drop a = [0] ++ withL name ++ post) (hl : name.length < 65536) (he : e = a + 3 + name.length) (hf : foldA name = some low) :
    listL bs e ⟨a, nm, false, sn⟩ = .ok ⟨e, ⟨low.toArray⟩, true, sn⟩ := by
  unfold listL
  obtain ⟨k, hk⟩ : ∃ k, e - a = k + 2 := ⟨e - a - 2, by omega⟩
  change listG bs (e - a) e ⟨a, nm, false, sn⟩ = _
  rw [hk, listG, if_neg (by show ¬ e ≤ a; omega)]
  have h1 : bs.drop a = [0] ++ (u16L name.length ++ (name ++ post)) := by rw [h]; unfold withL; simp only [List.append_assoc]
  have h2 := cur_next h1 (n := 1) rfl
  have h3 := cur_next h2 (n := 2) rfl
  rw [numL_cur (n := 1) (s := ⟨a, nm, false, sn⟩) h1 rfl (by show a + 1 ≤ e; omega)]
  simp only
  rw [someL_cur (size := 2) (s := ⟨a + 1, nm, false, sn⟩) h2 rfl (beN_u16 hl) (by show a + 1 + 2 + _ ≤ e; omega) rfl]
  simp only
  unfold nameL
  rw [getL_cur (s := ⟨a + 1 + 2, nm, false, sn⟩) h3 rfl]
  simp only
  rw [if_neg (by simp [beN]), hf]
  simp only
  rw [listG, if_pos (by show e ≤ a + 1 + 2 + _; omega)]
  congr 2
  omega
theorem extG_skip {bs : List UInt8} {a e k kind : Nat} {nm : ByteArray} {sn : Bool} {kb x post : List UInt8} (h : bs.drop a = kb ++ withL x ++ post) (hkb : kb.length = 2) (hkind : beN kb = kind) (hk0 : kind ≠ 0) (hl : x.length < 65536) (he : a + 4 + x.length ≤ e) :
    extG bs (k + 1) e ⟨a, nm, false, sn⟩ = extG bs k e ⟨a + 4 + x.length, nm, false, sn⟩ := by
  rw [extG, if_neg (by show ¬ (e ≤ a ∨ false = true); simp; omega)]
  have h1 : bs.drop a = kb ++ (u16L x.length ++ (x ++ post)) := by rw [h]; unfold withL; simp only [List.append_assoc]
  have h2 := cur_next h1 hkb
  have h3 := cur_next h2 (n := 2) rfl
  rw [numL_cur (s := ⟨a, nm, false, sn⟩) h1 hkb (by show a + 2 ≤ e; omega)]
  simp only [hkind]
  rw [someL_cur (size := 2) (s := ⟨a + 2, nm, false, sn⟩) h2 rfl (beN_u16 hl) (by show a + 2 + 2 + _ ≤ e; omega) rfl]
  simp only
  unfold extL
  rw [if_pos hk0, skipL_cur (s := ⟨a + 2 + 2, nm, false, sn⟩) h3 rfl (by show a + 2 + 2 + _ ≤ _; omega)]
theorem extG_name {bs : List UInt8} {a e k : Nat} {nm : ByteArray} {name low post : List UInt8} (h : bs.drop a = [0, 0] ++ withL (withL ([0] ++ withL name)) ++ post) (hl : name.length < 65000) (he : a + 9 + name.length ≤ e) (hf : foldA name = some low) :
    extG bs (k + 2) e ⟨a, nm, false, false⟩ = .ok ⟨a + 9 + name.length, ⟨low.toArray⟩, true, true⟩ := by
  rw [extG, if_neg (by show ¬ (e ≤ a ∨ false = true); simp; omega)]
  have hla : (withL ([0] ++ withL name)).length = name.length + 5 := by rw [withL_len, List.length_append, withL_len]; simp; omega
  have hlb : ([0] ++ withL name).length = name.length + 3 := by rw [List.length_append, withL_len]; simp; omega
  have h1 : bs.drop a = [0, 0] ++ (u16L (name.length + 5) ++ (u16L (name.length + 3) ++ ([0] ++ withL name ++ post))) := by
    rw [h]
    conv => lhs; rw [withL]
    rw [hla]
    conv => lhs; rw [withL]
    rw [hlb]
    simp only [List.append_assoc]
  have h2 := cur_next h1 (n := 2) rfl
  have h3 := cur_next h2 (n := 2) rfl
  have h4 := cur_next h3 (n := 2) rfl
  rw [numL_cur (n := 2) (s := ⟨a, nm, false, false⟩) h1 rfl (by show a + 2 ≤ e; omega)]
  simp only [show beN [0, 0] = 0 from rfl]
  rw [someL_cur (size := 2) (s := ⟨a + 2, nm, false, false⟩) h2 rfl (beN_u16 (n := name.length + 5) (by omega)) (by show a + 2 + 2 + _ ≤ e; omega) rfl]
  simp only
  unfold extL
  rw [if_neg (by simp), if_neg (by simp)]
  rw [someL_cur (size := 2) (s := ⟨a + 2 + 2, nm, false, true⟩) h3 rfl (beN_u16 (n := name.length + 3) (by omega)) (by show a + 2 + 2 + 2 + _ ≤ _; omega) (by simp; omega)]
  simp only
  rw [listL_one (sn := true) (low := low) h4 (by omega) (by omega) hf]
  simp only
  rw [extG, if_pos (.inr rfl)]
  congr 2
  omega
/-- the extensions -/
theorem extsL_all {bs : List UInt8} {a e : Nat} {nm : ByteArray} {name before behind post : List UInt8} (h : bs.drop a = extB name before behind ++ post) (he : e = a + (extB name before behind).length) (hb : before.length ≤ 1000) (hd : behind.length ≤ 1000)
    (hf : name ≠ [] → ∃ low, foldA name = some low) :
    ∃ at', extsL bs e ⟨a, nm, false, false⟩ = .ok (if name = [] then ⟨at', nm, false, false⟩ else ⟨at', ⟨((foldA name).getD []).toArray⟩, true, true⟩) := by
  have hlen : 8 ≤ (extB name before behind).length := by unfold extB; simp only [List.length_append, withL_len]; simp; omega
  unfold extsL
  change ∃ at', extG bs (e - a) e ⟨a, nm, false, false⟩ = _
  obtain ⟨k, hk⟩ : ∃ k, e - a = k + 3 := ⟨e - a - 3, by omega⟩
  rw [hk]
  unfold extB at h he
  have h1 : bs.drop a = [0, 16] ++ withL before ++ ((if name = [] then [] else [0, 0] ++ withL (withL ([0] ++ withL name))) ++ [0, 21] ++ withL behind ++ post) := by rw [h]; simp only [List.append_assoc]
  simp only [List.length_append, withL_len] at he
  rw [extG_skip (kind := 16) h1 rfl rfl (by omega) (by omega) (by simp at he ⊢; omega)]
  have h2 : bs.drop (a + 4 + before.length) = (if name = [] then [] else [0, 0] ++ withL (withL ([0] ++ withL name))) ++ [0, 21] ++ withL behind ++ post := by
    have := cur_next h1 (n := 4 + before.length) (by rw [List.length_append, withL_len]; simp; omega)
    rw [← Nat.add_assoc] at this
    exact this
  by_cases hn : name = []
  · rw [if_pos hn] at h2 he
    simp only [hn, if_true]
    rw [List.nil_append] at h2
    rw [extG_skip (kind := 21) h2 rfl rfl (by omega) (by omega) (by simp at he ⊢; omega)]
    rw [extG, if_pos (.inl (by simp at he ⊢; omega))]
    exact ⟨_, rfl⟩
  · rw [if_neg hn] at h2 he
    simp only [hn, if_false]
    obtain ⟨low, hlow⟩ := hf hn
    have hl := (foldA_some hlow).2.1
    have h3 : bs.drop (a + 4 + before.length) = [0, 0] ++ withL (withL ([0] ++ withL name)) ++ ([0, 21] ++ withL behind ++ post) := by rw [h2]; simp only [List.append_assoc]
    simp only [List.length_append, withL_len] at he
    rw [extG_name (low := low) h3 (by omega) (by simp at he ⊢; omega) hlow, hlow]
    exact ⟨_, rfl⟩
theorem zeros_cut : List.replicate 33 (0 : UInt8) = List.replicate 32 0 ++ [0] := rfl
theorem lookM_all {name before behind : List UInt8} (hb : before.length ≤ 1000) (hd : behind.length ≤ 1000) (hf : name ≠ [] → ∃ low, foldA name = some low) :
    ∃ at', lookM (allB name before behind) = .ok (if name = [] then ⟨at', ByteArray.empty, false, false⟩ else ⟨at', ⟨((foldA name).getD []).toArray⟩, true, true⟩) := by
  have hnl : name.length ≤ 253 := by
    by_cases hn : name = []
    · subst hn; simp
    · obtain ⟨low, hlow⟩ := hf hn
      exact (foldA_some hlow).2.1
  have hel : (extB name before behind).length ≤ 3000 := by
    unfold extB
    simp only [List.length_append, withL_len]
    split
    · simp; omega
    · simp only [List.length_append, withL_len]; simp; omega
  obtain ⟨ext, hext⟩ : ∃ ext, extB name before behind = ext := ⟨_, rfl⟩
  rw [hext] at hel
  have hbl : (bodyB name before behind).length = 43 + ext.length := by unfold bodyB; rw [hext]; simp only [List.length_append, withL_len]; simp; omega
  have h0 : (allB name before behind).drop 0 = [1] ++ ([0] ++ u16L (43 + ext.length) ++ ([3, 3] ++ List.replicate 32 0 ++ ([0] ++ ([0, 2] ++ ([0, 47] ++ ([1] ++ ([0] ++ (u16L ext.length ++ (ext ++ []))))))))) := by
    rw [List.drop_zero]
    unfold allB
    rw [hbl]
    unfold bodyB
    rw [hext, zeros_cut]
    unfold withL
    simp only [List.append_assoc, List.cons_append, List.nil_append, List.append_nil]
  generalize allB name before behind = bs at h0
  have h1 := cur_next h0 (n := 1) rfl
  have h2 := cur_next h1 (n := 3) rfl
  have h3 := cur_next h2 (n := 34) rfl
  have h4 := cur_next h3 (n := 1) rfl
  have h5 := cur_next h4 (n := 2) rfl
  have h6 := cur_next h5 (n := 2) rfl
  have h7 := cur_next h6 (n := 1) rfl
  have h8 := cur_next h7 (n := 1) rfl
  have h9 := cur_next h8 (n := 2) rfl
  unfold lookM ls0
  rw [numL_cur (n := 1) (s := ⟨0, ByteArray.empty, false, false⟩) h0 rfl (by show 0 + 1 ≤ e0; decide)]
  simp only [show beN [1] = 1 from rfl]
  rw [if_neg (by simp)]
  have hb3 : beN ([0] ++ u16L (43 + ext.length)) = 43 + ext.length := by
    have := beN_u16 (n := 43 + ext.length) (by omega)
    unfold beN at *
    rw [List.foldl_append]
    exact this
  rw [someL_cur (size := 3) (s := ⟨0 + 1, ByteArray.empty, false, false⟩) h1 rfl hb3 (by show 0 + 1 + 3 + _ ≤ e0; unfold e0; omega) rfl]
  simp only
  unfold bodyL
  rw [skipL_cur (n := 34) (s := ⟨0 + 1 + 3, ByteArray.empty, false, false⟩) h2 rfl (by show 0 + 1 + 3 + 34 ≤ _; omega)]
  simp only
  rw [someL_cur (size := 1) (n := 0) (s := ⟨0 + 1 + 3 + 34, ByteArray.empty, false, false⟩) h3 rfl rfl (by show 0 + 1 + 3 + 34 + 1 + 0 ≤ _; omega) rfl]
  simp only
  rw [skipL_cur (n := 0) (x := []) (s := ⟨0 + 1 + 3 + 34 + 1, ByteArray.empty, false, false⟩) h4 rfl (by show 0 + 1 + 3 + 34 + 1 + 0 ≤ _; omega)]
  simp only
  rw [someL_cur (size := 2) (n := 2) (s := ⟨0 + 1 + 3 + 34 + 1 + 0, ByteArray.empty, false, false⟩) h4 rfl rfl (by show 0 + 1 + 3 + 34 + 1 + 0 + 2 + 2 ≤ _; omega) rfl]
  simp only
  rw [skipL_cur (n := 2) (s := ⟨0 + 1 + 3 + 34 + 1 + 0 + 2, ByteArray.empty, false, false⟩) h5 rfl (by show 0 + 1 + 3 + 34 + 1 + 0 + 2 + 2 ≤ _; omega)]
  simp only
  rw [someL_cur (size := 1) (n := 1) (s := ⟨0 + 1 + 3 + 34 + 1 + 0 + 2 + 2, ByteArray.empty, false, false⟩) h6 rfl rfl (by show 0 + 1 + 3 + 34 + 1 + 0 + 2 + 2 + 1 + 1 ≤ _; omega) rfl]
  simp only
  rw [skipL_cur (n := 1) (s := ⟨0 + 1 + 3 + 34 + 1 + 0 + 2 + 2 + 1, ByteArray.empty, false, false⟩) h7 rfl (by show 0 + 1 + 3 + 34 + 1 + 0 + 2 + 2 + 1 + 1 ≤ _; omega)]
  simp only
  rw [if_neg (by omega)]
  rw [someL_cur (size := 2) (s := ⟨0 + 1 + 3 + 34 + 1 + 0 + 2 + 2 + 1 + 1, ByteArray.empty, false, false⟩) h8 rfl (beN_u16 (n := ext.length) (by omega)) (by show 0 + 1 + 3 + 34 + 1 + 0 + 2 + 2 + 1 + 1 + 2 + _ ≤ _; omega) (by simp; omega)]
  simp only
  exact extsL_all (post := []) (name := name) (before := before) (behind := behind) (by rw [hext]; exact h9) (by rw [hext]) hb hd hf

/-! ### records -/
theorem recG_out : ∀ (k : Nat) (parts : List Int) (i : Nat) (out all : List UInt8), recG k parts i out all = out ++ recG k parts i [] all
  | 0, parts, i, out, all => by simp [recG]
  | k + 1, parts, i, out, all => by
    rw [recG, recG]
    split
    · simp
    · rw [recG_out k parts (i + 1) (out ++ [22, 3, 1] ++ _ ++ _), recG_out k parts (i + 1) ([] ++ [22, 3, 1] ++ _ ++ _)]
      simp only [List.append_assoc, List.nil_append]
theorem sizeAt_lo {parts : List Int} (h : parts.any lowQ = false) (i : Nat) : 1 ≤ sizeAt parts i ∧ sizeAt parts i ≤ 16384 := by
  unfold sizeAt
  split
  · omega
  · rename_i hne
    have hp : 0 < parts.length := by cases parts with
      | nil => exact absurd rfl hne
      | cons => simp
    have hi : min i (parts.length - 1) < parts.length := by omega
    rw [List.getD_eq_getElem?_getD, List.getElem?_eq_getElem hi, Option.getD_some]
    have := List.any_eq_false.1 h _ (List.getElem_mem hi)
    unfold lowQ at this
    simp at this
    omega
theorem partsG_rec (parts : List Int) (hp : parts.any lowQ = false) : ∀ (k m i : Nat) (out all : List UInt8), all.length ≤ k → (recG k parts i [] all).length ≤ m → partsG m out (recG k parts i [] all) = (out ++ all, false)
  | 0, m, i, out, all, h, _ => by
    have : all = [] := List.eq_nil_of_length_eq_zero (by omega)
    subst this
    cases m <;> simp [recG, partsG]
  | k + 1, m, i, out, all, h, hm => by
    by_cases ha : all = []
    · subst ha
      cases m <;> simp [recG, partsG]
    · have hal : 1 ≤ all.length := by cases all with
        | nil => exact absurd rfl ha
        | cons => simp
      have hs := sizeAt_lo hp i
      obtain ⟨n, hn⟩ : ∃ n, min (sizeAt parts i) all.length = n := ⟨_, rfl⟩
      have hn1 : 1 ≤ n ∧ n ≤ 16384 ∧ n ≤ all.length := by omega
      have e : recG (k + 1) parts i [] all = [22, 3, 1] ++ u16L n ++ (all.take n ++ recG k parts (i + 1) [] (all.drop n)) := by
        rw [recG, if_neg ha, hn, recG_out]
        simp only [List.append_assoc, List.nil_append]
      rw [e] at hm ⊢
      have htl : (all.take n).length = n := by rw [List.length_take]; omega
      simp only [List.length_append, u16L_len, htl] at hm
      obtain ⟨m', rfl⟩ : ∃ m', m = m' + 1 := ⟨m - 1, by simp at hm; omega⟩
      have e2 : [22, 3, 1] ++ u16L n ++ (all.take n ++ recG k parts (i + 1) [] (all.drop n)) = 22 :: 3 :: 1 :: UInt8.ofNat (n / 256) :: UInt8.ofNat n :: (all.take n ++ recG k parts (i + 1) [] (all.drop n)) := rfl
      rw [e2, partsG]
      have hbe : beN ((List.drop 3 (22 :: 3 :: 1 :: UInt8.ofNat (n / 256) :: UInt8.ofNat n :: (all.take n ++ recG k parts (i + 1) [] (all.drop n)))).take 2) = n := beN_u16 (n := n) (by omega)
      simp only [hbe]
      rw [if_neg (by simp), if_neg (by simp), if_neg (by simp; omega)]
      have e3 : List.drop 5 (22 :: 3 :: 1 :: UInt8.ofNat (n / 256) :: UInt8.ofNat n :: (all.take n ++ recG k parts (i + 1) [] (all.drop n))) = all.take n ++ recG k parts (i + 1) [] (all.drop n) := rfl
      rw [e3, List.take_append_of_le_length (by omega), List.take_of_length_le (l := all.take n) (by omega)]
      rw [show (List.take n all ++ recG k parts (i + 1) [] (all.drop n)).drop n = recG k parts (i + 1) [] (all.drop n) from by rw [List.drop_append, htl, List.drop_of_length_le (by omega)]; simp]
      rw [partsG_rec parts hp k m' (i + 1) (out ++ all.take n) (all.drop n) (by rw [List.length_drop]; omega) (by simp at hm; omega)]
      rw [List.append_assoc, List.take_append_drop]
theorem partsL_recs {parts : List Int} (hp : parts.any lowQ = false) (all : List UInt8) : partsL (recsL parts all) = (all, false) := by
  unfold partsL recsL
  rw [partsG_rec parts hp all.length _ 0 [] all (Nat.le_refl _) (Nat.le_refl _)]
  rfl
/-- what a hello tells -/
theorem lookP_hello {name before behind : List UInt8} {parts : List Int} (hb : before.length ≤ 1000) (hd : behind.length ≤ 1000) (hf : name ≠ [] → ∃ low, foldA name = some low) (hp : parts.any lowQ = false) :
    lookP (helloB name before behind parts) = if name = [] then (2, ByteArray.empty) else (1, ⟨((foldA name).getD []).toArray⟩) := by
  obtain ⟨a, h⟩ := lookM_all hb hd hf
  unfold lookP helloB
  rw [partsL_recs hp, h]
  unfold tellL
  by_cases hn : name = []
  · simp [hn]
  · simp [hn]
theorem recG_len : ∀ (k : Nat) (parts : List Int) (i : Nat) (all : List UInt8), (recG k parts i [] all).length ≤ 5 * k + all.length
  | 0, parts, i, all => by simp [recG]
  | k + 1, parts, i, all => by
    rw [recG]
    split
    · simp
    · rw [recG_out]
      have := recG_len k parts (i + 1) (all.drop (min (sizeAt parts i) all.length))
      simp only [List.length_append, u16L_len, List.length_take, List.length_drop] at *
      simp
      omega
theorem helloB_len {name before behind : List UInt8} {parts : List Int} (hb : before.length ≤ 1000) (hd : behind.length ≤ 1000) (hn : name.length ≤ 253) : (helloB name before behind parts).length ≤ 20000 := by
  unfold helloB recsL
  have := recG_len (allB name before behind).length parts 0 (allB name before behind)
  have h2 : (allB name before behind).length ≤ 3300 := by
    unfold allB bodyB extB
    simp only [List.length_append, withL_len, u16L_len]
    split
    · simp; omega
    · simp only [List.length_append, withL_len]; simp; omega
  omega
/-- a beginning tells nothing yet, or what the whole tells -/
theorem lookP_pre {b : List UInt8} {i : Nat} : (lookP (b.take i)).1 = 0 ∨ lookP (b.take i) = lookP b := by
  by_cases h : (lookP (b.take i)).1 = 0
  · exact .inl h
  · right
    have := lookP_stays (b.take i) (b.drop i) h
    rw [List.take_append_drop] at this
    exact this.symm
end Go.Proofs.YtpoheemjdieogaaGreatDoor
