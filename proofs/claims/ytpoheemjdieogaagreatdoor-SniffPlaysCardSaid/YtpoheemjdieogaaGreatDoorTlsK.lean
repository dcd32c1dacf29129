/-
  The walk of tls.Look: what it tells is the plain law's. Condition: at most 90,000 bytes; the library's variables lie as listed.
-/
import Derived.Test.YtpoheemjdieogaaGreatDoorTlsY
import Derived.Test.YtpoheemjdieogaaGreatDoorTlsZ
import Derived.Test.YtpoheemjdieogaaGreatDoorTlsQ
namespace Go.Proofs.YtpoheemjdieogaaGreatDoor
open Go.RowKit Go.Lib
set_option linter.unusedVariables false
set_option linter.unusedSimpArgs false

/-! ### the codes -/
def Codes {α : Type} (x : Except Int α) : Prop := ∀ c, x = .error c → c = 4 ∨ c = 5
theorem getL_codes (bs : List UInt8) (n : Nat) (s : LS) : Codes (getL bs n s) := by
  intro c h
  unfold getL at h
  split at h
  · injection h with h; exact .inl h.symm
  · cases h
theorem numL_codes (bs : List UInt8) (size e : Nat) (s : LS) : Codes (numL bs size e s) := by
  intro c h
  unfold numL at h
  split at h
  · injection h with h; exact .inr h.symm
  · cases hg : getL bs size s with
    | error k => rw [hg] at h; injection h with h; subst h; exact getL_codes _ _ _ _ hg
    | ok p => rw [hg] at h; cases h
theorem someL_codes {bs : List UInt8} {size e : Nat} {okf : Nat → Nat → Bool} {f : Nat → Nat → LS → Except Int LS} (hf : ∀ n e' t, Codes (f n e' t)) (s : LS) : Codes (someL bs size e okf f s) := by
  intro c h
  unfold someL at h
  cases hg : numL bs size e s with
  | error k => rw [hg] at h; injection h with h; subst h; exact numL_codes _ _ _ _ _ hg
  | ok p =>
    rw [hg] at h
    simp only at h
    split at h
    · exact hf _ _ _ c h
    · injection h with h; exact .inr h.symm
theorem skipL_codes (bs : List UInt8) (n e : Nat) (s : LS) : Codes (skipL bs n e s) := by
  intro c h
  unfold skipL at h
  split at h
  · injection h with h; exact .inr h.symm
  · cases hg : getL bs n s with
    | error k => rw [hg] at h; injection h with h; subst h; exact getL_codes _ _ _ _ hg
    | ok p => rw [hg] at h; cases h
theorem nameL_codes (bs : List UInt8) (sort n : Nat) (s : LS) : Codes (nameL bs sort n s) := by
  intro c h
  unfold nameL at h
  cases hg : getL bs n s with
  | error k => rw [hg] at h; injection h with h; subst h; exact getL_codes _ _ _ _ hg
  | ok p =>
    rw [hg] at h
    simp only at h
    split at h
    · cases h
    · split at h
      · injection h with h; exact .inr h.symm
      · cases h
theorem codes_bind {x : Except Int LS} {f : LS → Except Int LS} (h : Codes x) (hf : ∀ a, Codes (f a)) : Codes (match (generalizing := false) x with | .error c => .error c | .ok s => f s) := by
  intro c hc
  cases x with
  | error k => injection hc with hc; subst hc; exact h _ rfl
  | ok a => exact hf a c hc
theorem codes_ok {α : Type} (a : α) : Codes (.ok a : Except Int α) := fun c h => by cases h
theorem codes_form {α : Type} : Codes (.error eForm : Except Int α) := fun c h => by injection h with h; exact .inr h.symm
theorem listG_codes (bs : List UInt8) : ∀ (k e : Nat) (s : LS), Codes (listG bs k e s)
  | 0, e, s => codes_ok s
  | k + 1, e, s => by
    rw [listG]
    split
    · exact codes_ok s
    · cases hn : numL bs 1 e s with
      | error c => intro c' h; injection h with h; subst h; exact numL_codes _ _ _ _ _ hn
      | ok p => exact codes_bind (someL_codes (fun n e' t => nameL_codes bs p.1 n t) p.2) fun s2 => listG_codes bs k e s2
theorem extL_codes (bs : List UInt8) (kind n e : Nat) (s : LS) : Codes (extL bs kind n e s) := by
  unfold extL
  split
  · exact skipL_codes bs n e s
  · split
    · exact codes_form
    · exact someL_codes (fun _ e' t => listG_codes bs _ e' t) _
theorem extG_codes (bs : List UInt8) : ∀ (k e : Nat) (s : LS), Codes (extG bs k e s)
  | 0, e, s => codes_ok s
  | k + 1, e, s => by
    rw [extG]
    split
    · exact codes_ok s
    · cases hn : numL bs 2 e s with
      | error c => intro c' h; injection h with h; subst h; exact numL_codes _ _ _ _ _ hn
      | ok p => exact codes_bind (someL_codes (fun n e' t => extL_codes bs p.1 n e' t) p.2) fun s2 => extG_codes bs k e s2
theorem bodyL_codes (bs : List UInt8) (e : Nat) (s : LS) : Codes (bodyL bs e s) := by
  unfold bodyL
  refine codes_bind (skipL_codes bs 34 e s) fun s1 => ?_
  refine codes_bind (someL_codes (fun n e' t => skipL_codes bs n e' t) s1) fun s2 => ?_
  refine codes_bind (someL_codes (fun n e' t => skipL_codes bs n e' t) s2) fun s3 => ?_
  refine codes_bind (someL_codes (fun n e' t => skipL_codes bs n e' t) s3) fun s4 => ?_
  split
  · exact codes_ok s4
  · exact someL_codes (fun _ e' t => extG_codes bs _ e' t) s4
theorem lookM_codes (bs : List UInt8) : Codes (lookM bs) := by
  unfold lookM
  cases hn : numL bs 1 e0 ls0 with
  | error c => intro c' h; injection h with h; subst h; exact numL_codes _ _ _ _ _ hn
  | ok p =>
    try dsimp only
    split
    · exact codes_form
    · exact someL_codes (fun _ e' t => bodyL_codes bs e' t) p.2
/-- what is known when the reader has ended -/
def LookPr (lb : Nat) (x : Except Int LS) (k : Int) (r : Nat) (w : World) : Prop :=
  match x with
  | .ok s => k = 0 ∧ ∃ ev, LkB w r lb ev s
  | .error c => k = c
set_option maxRecDepth 100000 in
set_option maxHeartbeats 8000000 in
theorem look_any (w : World) (hw : LW w) (A : Option Addr) (n c : Nat) (b : List UInt8) (hb : BytesV w (.slice A n c) b) (hn : n ≤ 90000) :
    Calls Tryz.prog 54 #[.slice A n c] w fun en w' => en = .returned (.tuple #[.int .i64 (lookP b).1, .string (lookP b).2]) ∧ Keeps [] w w' := by
  obtain ⟨res, hres⟩ : ∃ res, lookP b = res := ⟨_, rfl⟩
  rw [hres]
  unfold lookP at hres
  have HPA := Lib.hid (parts_any w A n c b hb hn)
  obtain ⟨bs, hbs⟩ : ∃ bs, (partsL b).1 = bs := ⟨_, rfl⟩
  obtain ⟨br, hbr⟩ : ∃ br, (partsL b).2 = br := ⟨_, rfl⟩
  rw [hbs, hbr] at HPA hres
  obtain ⟨x, hx⟩ : ∃ x, lookM bs = x := ⟨_, rfl⟩
  have hxc := lookM_codes bs
  rw [hx] at hres hxc
  have HW := Lib.hid hw
  have HX := Lib.hid hx
  have HXC := Lib.hid hxc
  clear hb hw hbs hbr hx hxc
  go_enter Tryz.func54, Tryz.ntmps54
  go_wp2_with fail
  refine HPA.out.mono ?_
  rintro en w1 ⟨v, rfl, hown, k1, hle⟩
  have HOW := Lib.hid hown
  have HK1 := Lib.hid k1
  have HLE := Lib.hid hle
  clear hown k1 hle HPA
  go_wp2_with fail
  obtain ⟨g0, hg0⟩ : ∃ g0, w1.heap.size = g0 := ⟨_, rfl⟩
  refine calls_gn fun w2 hw2 => ?_
  obtain ⟨wa, hwa⟩ : ∃ wa, w1.alloc (.cells #[.int .i64 1073741824] 3) = wa := ⟨_, rfl⟩
  have hag : wa.heap[g0]? = some (.cells #[.int .i64 1073741824] 3 (0, 0)) := by rw [← hwa, ← hg0]; exact (MapKept.heap_alloc w1 _).1
  have has : wa.heap.size = g0 + 1 := by rw [← hwa, ← hg0]; exact Array.size_push ..
  have ka : Keeps [] w1 wa := by rw [← hwa]; exact Keeps.alloc [] w1 _
  obtain ⟨lb, hlb⟩ : ∃ lb, g0 + 1 = lb := ⟨_, rfl⟩
  obtain ⟨wb, hwb⟩ : ∃ wb, wa.alloc (.cells #[.pointer none, .slice (some ⟨g0, 0, none⟩) 1 1, .string ByteArray.empty, .bool false, .bool false] 118) = wb := ⟨_, rfl⟩
  have hbl : wb.heap[lb]? = some (.cells #[.pointer none, .slice (some ⟨g0, 0, none⟩) 1 1, .string ByteArray.empty, .bool false, .bool false] 118 (0, 0)) := by rw [← hwb, ← hlb, ← has]; exact (MapKept.heap_alloc wa _).1
  have hbs : wb.heap.size = lb + 1 := by rw [← hwb, ← hlb, ← has]; exact Array.size_push ..
  have kb : Keeps [] wa wb := by rw [← hwb]; exact Keeps.alloc [] wa _
  obtain ⟨vb, hvb⟩ : ∃ vb, lb + 1 = vb := ⟨_, rfl⟩
  have hw2' : w2 = wb.alloc (.cells #[.pointer (some ⟨lb, 0, none⟩)] 115) := by
    rw [hw2, ← hwb, ← hwa, ← hlb, ← hg0]
    rfl
  have hcv : w2.heap[vb]? = some (.cells #[.pointer (some ⟨lb, 0, none⟩)] 115 (0, 0)) := by rw [hw2', ← hvb, ← hbs]; exact (MapKept.heap_alloc wb _).1
  have k2 : Keeps [] wb w2 := by rw [hw2']; exact Keeps.alloc [] wb _
  have hcs : w2.heap.size = vb + 1 := by rw [hw2', ← hvb, ← hbs]; exact Array.size_push ..
  have hbl2 := (k2.block lb (lt_of_block hbl) (by simp)).trans hbl
  have hag2 := (k2.block g0 (by omega) (by simp)).trans ((kb.block g0 (lt_of_block hag) (by simp)).trans hag)
  have K12 := Lib.hid (ka.trans (kb.trans k2))
  rw [hg0, hlb, hvb]
  have hby := (BytesV.of_own HOW.out).keep0 K12.out
  obtain ⟨A1, c1, rfl, _⟩ := hby
  have hby2 : BytesV w2 (.slice A1 bs.length c1) bs := (BytesV.of_own HOW.out).keep0 K12.out
  have hwk : w.heap.size ≤ g0 := by rw [← hg0]; exact HK1.out.size
  have HRD := Lib.hid (read_any w2 [lb, g0] (fun x hx => by simp at hx; omega) A1 bs.length c1 bs hby2 (by have := HLE.out; omega) 83 #[] #[.pointer (some ⟨vb, 0, none⟩)] (enters Tryz.func83 (by kernel_rfl) (by kernel_rfl))
    (LookPr lb x) (fun k r w3 w4 T hT hk hp => by
      unfold LookPr at hp ⊢
      cases x with
      | error c => exact hp
      | ok s =>
        obtain ⟨h1, ev, h2⟩ := hp
        exact ⟨h1, ev, (hk.block lb (lt_of_block h2) (fun hm => by have := hT lb hm; omega)).trans h2⟩)
    (fun w3 r A' c' k3 hr hrd hbb => by
      refine (look1_any w3 r lb g0 vb A' bs.length c' bs (cell_keeps k3 (cell_of_block hcv 0) (by simp)) ((k3.block lb (by omega) (by simp)).trans hbl2) ((k3.block g0 (by omega) (by simp)).trans hag2) hrd hbb ?_ (by have := HLE.out; omega) rfl (by omega) (by omega) (by omega) (by omega) (by omega) (by omega)).mono ?_
      · intro w4 k4
        have h1 : Keeps [r, lb, g0] w w4 := ((HK1.out.trans (K12.out.trans k3)).mono (by simp)).trans k4
        exact HW.out.keep0 (h1.fresh (fun y hy hlt => by simp at hy; omega))
      · rintro en w4 ⟨h1, h2, h3⟩
        refine ⟨h1, h2, ?_⟩
        rw [HX.out] at h3
        unfold LookPr
        cases x with
        | error c => exact .inl ⟨c, h3, rfl⟩
        | ok s => exact .inr ⟨h3.1, rfl, h3.2⟩))
  have HCV := Lib.hid hcv
  have HN := Lib.hid (And.intro hwk (And.intro hlb (And.intro hvb hcs)))
  clear hwk hlb hvb hcs hcv hby2 hbl2 hag2 k2 hw2' hbs kb hbl hwb ka has hag hwa hw2 hg0
  refine HRD.out.mono ?_
  rintro en w3 ⟨k3, kk, r, rfl, hpr⟩
  have HKW := Lib.hid (show Keeps [] w w3 from (((HK1.out.trans K12.out).mono (T := [lb, g0]) (by simp)).trans k3).fresh (fun y hy hlt => by have h := HN.out; simp at hy; omega))
  have hvc : w3.cell? ⟨vb, 0, none⟩ = some (.pointer (some ⟨lb, 0, none⟩)) := cell_keeps k3 (cell_of_block HCV.out 0) (by have h := HN.out; simp; omega)
  clear k3 HRD
  unfold LookPr at hpr
  unfold tellL at hres
  cases x with
  | ok s =>
    obtain ⟨rfl, ev, hlk⟩ := hpr
    have c3 : w3.cell? ⟨lb, 3, none⟩ = some (.bool s.named) := cell_of_block hlk 3
    have c2 : w3.cell? ⟨lb, 2, none⟩ = some (.string s.name) := cell_of_block hlk 2
    simp only at hres
    by_cases hnm : s.named = true
    · rw [if_pos hnm] at hres
      rw [hnm] at c3
      have HS5 := Lib.hid (show w3.drew.cell? ⟨vb, 0, none⟩ = some (.pointer (some ⟨lb, 0, none⟩)) ∧ w3.drew.cell? ⟨lb, 2, none⟩ = some (.string s.name) from ⟨hvc, c2⟩)
      go_wp2_with fail
      go_region_held3 (fun W => W.cell? ⟨vb, 0, none⟩ = some (.pointer (some ⟨lb, 0, none⟩)) ∧ W.cell? ⟨lb, 2, none⟩ = some (.string s.name)) (exact HS5.out) (fail)
      go_wp2_with fail
      refine bodyPost_ret (v := .tuple #[.int .i64 1, .string s.name]) (by simp [results, Tryz.results54, go_sem]) rfl ?_
      rw [← hres]
      exact ⟨rfl, HKW.out.drew'⟩
    · rw [if_neg hnm] at hres
      have hnf : s.named = false := by cases hz : s.named <;> simp_all
      rw [hnf] at c3
      go_wp2_with fail
      refine bodyPost_ret (v := .tuple #[.int .i64 2, .string ByteArray.empty]) (by simp [results, Tryz.results54, go_sem]; rfl) rfl ?_
      rw [← hres]
      exact ⟨rfl, HKW.out⟩
  | error c =>
    subst hpr
    simp only at hres
    have hcc := HXC.out kk rfl
    have hk0 : (kk == 0) = false := by simp; omega
    by_cases h4 : kk = 4
    · have h4' : (kk != 4) = false := by simp [h4]
      cases br with
      | true =>
        rw [if_pos (.inr rfl)] at hres
        go_wp2_with fail
        refine bodyPost_ret (v := .tuple #[.int .i64 3, .string ByteArray.empty]) (by simp [results, Tryz.results54, go_sem]; rfl) rfl ?_
        rw [← hres]
        exact ⟨rfl, HKW.out⟩
      | false =>
        rw [if_neg (by simp [h4, eShort])] at hres
        go_wp2_with fail
        refine bodyPost_ret (v := .tuple #[.int .i64 0, .string ByteArray.empty]) (by simp [results, Tryz.results54, go_sem]; rfl) rfl ?_
        rw [← hres]
        exact ⟨rfl, HKW.out⟩
    · have h4' : (kk != 4) = true := by simp [h4]
      rw [if_pos (.inl (by simpa [eShort] using h4))] at hres
      go_wp2_with fail
      refine bodyPost_ret (v := .tuple #[.int .i64 3, .string ByteArray.empty]) (by simp [results, Tryz.results54, go_sem]; rfl) rfl ?_
      rw [← hres]
      exact ⟨rfl, HKW.out⟩
end Go.Proofs.YtpoheemjdieogaaGreatDoor
