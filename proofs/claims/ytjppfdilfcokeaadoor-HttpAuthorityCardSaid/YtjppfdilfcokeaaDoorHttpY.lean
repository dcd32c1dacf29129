/-
  The walk of http.Authority. Condition: the library's variables lie as listed; at most 80,000 bytes.
-/
import Derived.Test.YtjppfdilfcokeaaDoorHttpX
namespace Go.Proofs.YtjppfdilfcokeaaDoor
open Go.RowKit Go.Lib
set_option linter.unusedVariables false
set_option linter.unusedSimpArgs false

def hostcolB (c : UInt8) : Bool := hostB c || decide (c.toNat = 58)
set_option maxRecDepth 100000 in
set_option maxHeartbeats 8000000 in
theorem hostcol_any (w : World) (x : UInt8) : Calls Tryd.prog 46 #[.int .u8 x.toNat] w fun e w' => e = .returned (.bool (hostcolB x)) ∧ w' = w := by
  obtain ⟨c, hc⟩ : ∃ c : Int, (x.toNat : Int) = c := ⟨_, rfl⟩
  cases h0 : hostB x
  · skip
    by_cases h1 : c = 58
    · skip
      have q1 : decide (x.toNat = 58) = true := by exact decide_eq_true (by omega)
      have HP : hostcolB x = true := by unfold hostcolB; rw [h0, q1]; rfl
      rw [HP, hc]
      clear HP
      have C0 := Lib.hid (hosted_any w x)
      rw [h0, hc] at C0
      clear h0
      clear q1
      clear hc
      subst h1
      go_enter Tryd.func46, Tryd.ntmps46
      go_wp2_with fail
      refine C0.out.mono ?_
      rintro e w0 ⟨rfl, hw0⟩
      obtain rfl := hw0.symm
      clear hw0
      go_wp2_with fail
      go_ret
      exact ⟨by first | rfl | (simp <;> omega) | (simp [*] <;> omega), rfl⟩
    · skip
      have q1 : decide (x.toNat = 58) = false := by exact decide_eq_false (by omega)
      have HP : hostcolB x = false := by unfold hostcolB; rw [h0, q1]; rfl
      rw [HP, hc]
      clear HP
      have C0 := Lib.hid (hosted_any w x)
      rw [h0, hc] at C0
      clear h0
      clear q1
      clear hc
      go_enter Tryd.func46, Tryd.ntmps46
      go_wp2_with fail
      refine C0.out.mono ?_
      rintro e w0 ⟨rfl, hw0⟩
      obtain rfl := hw0.symm
      clear hw0
      go_wp2_with fail
      go_ret
      exact ⟨by first | rfl | (simp <;> omega) | (simp [*] <;> omega), rfl⟩
  · skip
    have HP : hostcolB x = true := by unfold hostcolB; rw [h0]; rfl
    rw [HP, hc]
    clear HP
    have C0 := Lib.hid (hosted_any w x)
    rw [h0, hc] at C0
    clear h0
    clear hc
    go_enter Tryd.func46, Tryd.ntmps46
    go_wp2_with fail
    refine C0.out.mono ?_
    rintro e w0 ⟨rfl, hw0⟩
    obtain rfl := hw0.symm
    clear hw0
    go_wp2_with fail
    go_ret
    exact ⟨by first | rfl | (simp <;> omega) | (simp [*] <;> omega), rfl⟩
def uriB (s : List UInt8) : List UInt8 := [71, 69, 84, 32, 104, 116, 116, 112, 58, 47, 47] ++ s ++ [32, 72, 84, 84, 80, 47, 49, 46, 49, 13, 10]
def authR (s : List UInt8) : List UInt8 × Bool := if s.all hostcolB then ((lookH (uriB s)).2, (lookH (uriB s)).1 == 1) else ([], false)
theorem isF_hostcol (S : List Nat) (w : World) : IsF S w (.func (.func 46) #[] #[]) hostcolB := isF_static (enters_of Tryd.func46 (by kernel_rfl) rfl) hostcol_any
set_option maxRecDepth 100000 in
set_option maxHeartbeats 4000000 in
theorem authority_any (w : World) (hw : LW w) (s : List UInt8) (hs : s.length ≤ 80000) : Calls Tryd.prog 18 #[.string (bs s)] w fun e w' => e = .returned (.tuple #[.string (bs (authR s).1), .bool (authR s).2]) ∧ Keeps [] w w' := by
  obtain ⟨res, hres⟩ : ∃ res, authR s = res := ⟨_, rfl⟩
  rw [hres]
  have HRES := Lib.hid hres
  have HBW := Lib.hid (bytewise_any w s _ hostcolB (by omega) (isF_hostcol [] w))
  have HCB := Lib.hid (conv_bytes w (uriB s) (by simp [uriB]; omega))
  have HLK := Lib.hid (fun v (h : BytesV (bytesWorld w 5 (bs (uriB s))) v (uriB s)) => look_B (bytesWorld w 5 (bs (uriB s))) (hw.keep0 HCB.out.2) v (uriB s) h (by simp [uriB]; omega))
  have hcv := Go.Lib.run_convert_string_bytes (P := Tryd.prog) w 9 22 5 (bs (uriB s)) (u := .string) Tryd.underlying9 Tryd.underlying22 Tryd.underlying5
  clear hres hw
  cases hall : s.all hostcolB with
  | false =>
    rw [hall] at HBW
    have hn : res = ([], false) := by rw [← HRES.out]; unfold authR; rw [hall]; rfl
    subst hn
    clear hall hcv HLK HCB
    go_enter Tryd.func18, Tryd.ntmps18
    go_wp2_with fail
    refine HBW.out.mono ?_
    rintro e w1 ⟨rfl, hw⟩
    obtain rfl := hw.symm
    clear hw
    go_wp2_with fail
    exact bodyPost_ret (v := .tuple #[.string (bs []), .bool false]) (by simp [results, Tryd.results18, go_sem]; rfl) rfl ⟨rfl, Keeps.refl _ _⟩
  | true =>
    rw [hall] at HBW
    have hn : res = ((lookH (uriB s)).2, (lookH (uriB s)).1 == 1) := by rw [← HRES.out]; unfold authR; rw [hall]; rfl
    subst hn
    have e1 : ¬ 9223372036854775807 < 11 + (bs s).size := by rw [bs_size]; omega
    have e2 : ¬ 9223372036854775807 < 11 + (bs s).size + 9 := by rw [bs_size]; omega
    have e3 : ¬ 9223372036854775807 < 11 + (bs s).size + 9 + 2 := by rw [bs_size]; omega
    have happ : (⟨#[71, 69, 84, 32, 104, 116, 116, 112, 58, 47, 47]⟩ : ByteArray) ++ bs s ++ ⟨#[32, 72, 84, 84, 80, 47, 49, 46, 49]⟩ ++ ⟨#[13, 10]⟩ = bs (uriB s) := by apply ByteArray.ext; simp [bs, uriB]
    obtain ⟨k, hk⟩ : ∃ k, (lookH (uriB s)).1 = k := ⟨_, rfl⟩
    obtain ⟨nm, hnm⟩ : ∃ nm, (lookH (uriB s)).2 = nm := ⟨_, rfl⟩
    rw [hk, hnm] at HLK
    rw [hk, hnm] at HRES ⊢
    clear hall hk hnm
    go_enter Tryd.func18, Tryd.ntmps18
    go_wp2_with fail
    refine HBW.out.mono ?_
    rintro e w1 ⟨rfl, hw⟩
    obtain rfl := hw.symm
    clear hw
    go_wp2_with fail
    refine (HLK.out _ HCB.out.1).mono ?_
    rintro e w2 ⟨rfl, k2⟩
    have HK2 := Lib.hid (HCB.out.2.trans k2)
    clear k2 HLK HCB hcv
    go_wp2_with fail
    exact bodyPost_ret (v := .tuple #[.string (bs nm), .bool (k == 1)]) (by simp [results, Tryd.results18, go_sem]) rfl ⟨rfl, HK2.out⟩
end Go.Proofs.YtjppfdilfcokeaaDoor
