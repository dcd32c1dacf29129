/-
  The walks of tls.Hello where it ends with an error. Condition: the library's variables lie as listed.
-/
import Derived.Test.YthcpeceamiibaaaDoorTlsI
namespace Go.Proofs.YthcpeceamiibaaaDoor
open Go.RowKit Go.Lib Go.Shelf
set_option linter.unusedVariables false
set_option linter.unusedSimpArgs false

set_option maxRecDepth 100000 in
set_option maxHeartbeats 4000000 in
theorem hello_arg (w : World) (hw : LW w) (name : ByteArray) (hnm : name.data.toList ≠ [] ∧ foldIs name = false) (A1 A2 : Option Addr) (n1 n2 c1 c2 : Nat)
    (pA : Option Addr) (pn pc : Nat) (parts : List Int) (hp : IntsV w pA pn pc parts) (hpn : pn ≤ 1000)  :
    Calls Tryd.prog 9 #[.string name, .slice A1 n1 c1, .slice A2 n2 c2, .slice pA pn pc] w fun en w' => en = .returned (.tuple #[.slice none 0 0, .int .i64 1]) ∧ Keeps [] w w' := by
  have HF := Lib.hid (fold_any w hw name)
  have HP := Lib.hid hp
  obtain ⟨hne, hfi⟩ := hnm
  have hE : name.toList.isEmpty = false := by rw [Lib.toList_data]; cases h : name.data.toList with
    | nil => exact absurd h hne
    | cons a l => rfl
  obtain ⟨low, hlow2⟩ : ∃ low, foldB name = low := ⟨_, rfl⟩
  rw [hfi, hlow2] at HF
  clear hne hfi hlow2
  clear hw hp
  go_enter Tryd.func9, Tryd.ntmps9
  go_wp2_with fail
  refine HF.out.mono ?_
  rintro en w1 ⟨rfl, k1⟩
  have HK1 := Lib.hid k1
  clear k1 HF
  go_wp2_with fail
  refine bodyPost_ret (v := .tuple #[.slice none 0 0, .int .i64 1]) (by simp [results, Tryd.results9, go_sem]) rfl ?_
  exact ⟨rfl, HK1.out⟩
set_option maxRecDepth 100000 in
set_option maxHeartbeats 4000000 in
theorem hello_low_named (w : World) (hw : LW w) (name : ByteArray) (hnm : name.data.toList ≠ [] ∧ foldIs name = true) (A1 A2 : Option Addr) (n1 n2 c1 c2 : Nat)
    (pA : Option Addr) (pn pc : Nat) (parts : List Int) (hp : IntsV w pA pn pc parts) (hpn : pn ≤ 1000) (hlow : parts.any lowQ = true) :
    Calls Tryd.prog 9 #[.string name, .slice A1 n1 c1, .slice A2 n2 c2, .slice pA pn pc] w fun en w' => en = .returned (.tuple #[.slice none 0 0, .int .i64 1]) ∧ Keeps [] w w' := by
  have HF := Lib.hid (fold_any w hw name)
  have HP := Lib.hid hp
  obtain ⟨hne, hfi⟩ := hnm
  have hE : name.toList.isEmpty = false := by rw [Lib.toList_data]; cases h : name.data.toList with
    | nil => exact absurd h hne
    | cons a l => rfl
  obtain ⟨low, hlow2⟩ : ∃ low, foldB name = low := ⟨_, rfl⟩
  rw [hfi, hlow2] at HF
  clear hne hfi hlow2
  have HLOW := Lib.hid hlow
  clear hlow
  clear hw hp
  go_enter Tryd.func9, Tryd.ntmps9
  go_wp2_with fail
  refine HF.out.mono ?_
  rintro en w1 ⟨rfl, k1⟩
  have HCO := Lib.hid (lows_any w1 pA pn pc parts (HP.out.keep0 k1) (by omega))
  rw [HLOW.out] at HCO
  have HK1 := Lib.hid k1
  clear k1 HF
  go_wp2_with fail
  refine HCO.out.mono ?_
  rintro en w2 ⟨rfl, k2⟩
  have HK2 := Lib.hid (HK1.out.trans k2)
  clear k2 HCO
  go_wp2_with fail
  refine bodyPost_ret (v := .tuple #[.slice none 0 0, .int .i64 1]) (by simp [results, Tryd.results9, go_sem]) rfl ?_
  exact ⟨rfl, HK2.out⟩
set_option maxRecDepth 100000 in
set_option maxHeartbeats 4000000 in
theorem hello_low_none (w : World) (hw : LW w) (name : ByteArray) (hnm : name = ByteArray.empty) (A1 A2 : Option Addr) (n1 n2 c1 c2 : Nat)
    (pA : Option Addr) (pn pc : Nat) (parts : List Int) (hp : IntsV w pA pn pc parts) (hpn : pn ≤ 1000) (hlow : parts.any lowQ = true) :
    Calls Tryd.prog 9 #[.string name, .slice A1 n1 c1, .slice A2 n2 c2, .slice pA pn pc] w fun en w' => en = .returned (.tuple #[.slice none 0 0, .int .i64 1]) ∧ Keeps [] w w' := by
  have HF := Lib.hid (fold_any w hw name)
  have HP := Lib.hid hp
  subst hnm
  rw [show foldIs ByteArray.empty = false from rfl, show foldB ByteArray.empty = ByteArray.empty from rfl] at HF
  have HLOW := Lib.hid hlow
  clear hlow
  clear hw hp
  go_enter Tryd.func9, Tryd.ntmps9
  go_wp2_with fail
  refine HF.out.mono ?_
  rintro en w1 ⟨rfl, k1⟩
  have HCO := Lib.hid (lows_any w1 pA pn pc parts (HP.out.keep0 k1) (by omega))
  rw [HLOW.out] at HCO
  have HK1 := Lib.hid k1
  clear k1 HF
  go_wp2_with fail
  refine HCO.out.mono ?_
  rintro en w2 ⟨rfl, k2⟩
  have HK2 := Lib.hid (HK1.out.trans k2)
  clear k2 HCO
  go_wp2_with fail
  refine bodyPost_ret (v := .tuple #[.slice none 0 0, .int .i64 1]) (by simp [results, Tryd.results9, go_sem]) rfl ?_
  exact ⟨rfl, HK2.out⟩
set_option maxRecDepth 100000 in
set_option maxHeartbeats 4000000 in
theorem hello_long_named (w : World) (hw : LW w) (name : ByteArray) (hnm : name.data.toList ≠ [] ∧ foldIs name = true) (A1 A2 : Option Addr) (n1 n2 c1 c2 : Nat)
    (pA : Option Addr) (pn pc : Nat) (parts : List Int) (hp : IntsV w pA pn pc parts) (hpn : pn ≤ 1000) (hlow : parts.any lowQ = false) (hlong : 1000 < n1 ∨ 1000 < n2) :
    Calls Tryd.prog 9 #[.string name, .slice A1 n1 c1, .slice A2 n2 c2, .slice pA pn pc] w fun en w' => en = .returned (.tuple #[.slice none 0 0, .int .i64 3]) ∧ Keeps [] w w' := by
  have HF := Lib.hid (fold_any w hw name)
  have HP := Lib.hid hp
  obtain ⟨hne, hfi⟩ := hnm
  have hE : name.toList.isEmpty = false := by rw [Lib.toList_data]; cases h : name.data.toList with
    | nil => exact absurd h hne
    | cons a l => rfl
  obtain ⟨low, hlow2⟩ : ∃ low, foldB name = low := ⟨_, rfl⟩
  rw [hfi, hlow2] at HF
  clear hne hfi hlow2
  have HLOW := Lib.hid hlow
  clear hlow
  rcases Nat.lt_or_ge 1000 n1 with hq | hq
  case' inl => have hq1 : (1000 : Int) < (n1 : Int) := by omega
  case' inr =>
    have hq1 : ¬ (1000 : Int) < (n1 : Int) := by omega
    have hq2 : (1000 : Int) < (n2 : Int) := by omega
  all_goals
    clear hq hlong
    clear hw hp
    go_enter Tryd.func9, Tryd.ntmps9
    go_wp2_with fail
    refine HF.out.mono ?_
    rintro en w1 ⟨rfl, k1⟩
    have HCO := Lib.hid (lows_any w1 pA pn pc parts (HP.out.keep0 k1) (by omega))
    rw [HLOW.out] at HCO
    have HK1 := Lib.hid k1
    clear k1 HF
    go_wp2_with fail
    refine HCO.out.mono ?_
    rintro en w2 ⟨rfl, k2⟩
    have HK2 := Lib.hid (HK1.out.trans k2)
    clear k2 HCO
    go_wp2_with fail
    refine bodyPost_ret (v := .tuple #[.slice none 0 0, .int .i64 3]) (by simp [results, Tryd.results9, go_sem]) rfl ?_
    exact ⟨rfl, HK2.out⟩
set_option maxRecDepth 100000 in
set_option maxHeartbeats 4000000 in
theorem hello_long_none (w : World) (hw : LW w) (name : ByteArray) (hnm : name = ByteArray.empty) (A1 A2 : Option Addr) (n1 n2 c1 c2 : Nat)
    (pA : Option Addr) (pn pc : Nat) (parts : List Int) (hp : IntsV w pA pn pc parts) (hpn : pn ≤ 1000) (hlow : parts.any lowQ = false) (hlong : 1000 < n1 ∨ 1000 < n2) :
    Calls Tryd.prog 9 #[.string name, .slice A1 n1 c1, .slice A2 n2 c2, .slice pA pn pc] w fun en w' => en = .returned (.tuple #[.slice none 0 0, .int .i64 3]) ∧ Keeps [] w w' := by
  have HF := Lib.hid (fold_any w hw name)
  have HP := Lib.hid hp
  subst hnm
  rw [show foldIs ByteArray.empty = false from rfl, show foldB ByteArray.empty = ByteArray.empty from rfl] at HF
  have HLOW := Lib.hid hlow
  clear hlow
  rcases Nat.lt_or_ge 1000 n1 with hq | hq
  case' inl => have hq1 : (1000 : Int) < (n1 : Int) := by omega
  case' inr =>
    have hq1 : ¬ (1000 : Int) < (n1 : Int) := by omega
    have hq2 : (1000 : Int) < (n2 : Int) := by omega
  all_goals
    clear hq hlong
    clear hw hp
    go_enter Tryd.func9, Tryd.ntmps9
    go_wp2_with fail
    refine HF.out.mono ?_
    rintro en w1 ⟨rfl, k1⟩
    have HCO := Lib.hid (lows_any w1 pA pn pc parts (HP.out.keep0 k1) (by omega))
    rw [HLOW.out] at HCO
    have HK1 := Lib.hid k1
    clear k1 HF
    go_wp2_with fail
    refine HCO.out.mono ?_
    rintro en w2 ⟨rfl, k2⟩
    have HK2 := Lib.hid (HK1.out.trans k2)
    clear k2 HCO
    go_wp2_with fail
    refine bodyPost_ret (v := .tuple #[.slice none 0 0, .int .i64 3]) (by simp [results, Tryd.results9, go_sem]) rfl ?_
    exact ⟨rfl, HK2.out⟩

end Go.Proofs.YthcpeceamiibaaaDoor
