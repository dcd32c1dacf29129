/-
  HostOptions, first part: host.may at any setup; the letters, the tables of known calls. No condition.
-/
import Derived.Test.YtgaidloicmkdaaaHostD
import Derived.Test.YtgaidloicmkdaaaEvW
import Derived.Test.YtgaidloicmkdaaaMay
import Derived.Test.YtgaidloicmkdaaaSegO
namespace Go.Proofs.Ytgaidloicmkdaaa
open Ev Go.RowKit
set_option linter.unusedVariables false
set_option linter.unusedSimpArgs false
attribute [local go_sem ↓] Go.wp_at_zero Go.wp_at_succ
def mayS (s : SU) : Bool := (decide (1 ≤ s.mss) && decide (s.mss ≤ 1460)) && (decide (-1 ≤ s.scale) && decide (s.scale ≤ 14)) && decide (1 ≤ s.room) && decide (s.room ≤ 131072) && decide (1 ≤ s.rto) && decide (s.rto ≤ 1073741824) && decide (1 ≤ s.tries) && decide (s.tries ≤ 10)
set_option maxRecDepth 100000 in
set_option maxHeartbeats 1000000 in
theorem may_p0 (w : World) (s : SU) (h : ((s.mss < 1) ∧ s.scale < -1)) : Calls Try.prog 27 #[suV s] w fun e w' => e = .returned (.bool (mayS s)) ∧ Keeps [] w w' := by
  have hm : mayS s = false := by unfold mayS; simp; omega
  rw [hm]
  clear hm
  unfold suV
  obtain ⟨h0, h1⟩ := (show s.mss < 1 ∧ s.scale < -1 by omega)
  go_enter Try.func27, Try.ntmps27
  go_wp2_with fail
  go_ret
  first | exact ⟨rfl, Keeps.alloc _ _ _⟩ | exact ⟨ret_b (by simp; omega), Keeps.alloc _ _ _⟩
set_option maxRecDepth 100000 in
set_option maxHeartbeats 1000000 in
theorem may_p1 (w : World) (s : SU) (h : ((s.mss < 1) ∧ -1 ≤ s.scale ∧ 14 < s.scale)) : Calls Try.prog 27 #[suV s] w fun e w' => e = .returned (.bool (mayS s)) ∧ Keeps [] w w' := by
  have hm : mayS s = false := by unfold mayS; simp; omega
  rw [hm]
  clear hm
  unfold suV
  obtain ⟨h0, h1, h2⟩ := (show s.mss < 1 ∧ -1 ≤ s.scale ∧ 14 < s.scale by omega)
  go_enter Try.func27, Try.ntmps27
  go_wp2_with fail
  go_ret
  first | exact ⟨rfl, Keeps.alloc _ _ _⟩ | exact ⟨ret_b (by simp; omega), Keeps.alloc _ _ _⟩
set_option maxRecDepth 100000 in
set_option maxHeartbeats 1000000 in
theorem may_p2 (w : World) (s : SU) (h : ((s.mss < 1) ∧ -1 ≤ s.scale ∧ s.scale ≤ 14)) : Calls Try.prog 27 #[suV s] w fun e w' => e = .returned (.bool (mayS s)) ∧ Keeps [] w w' := by
  have hm : mayS s = false := by unfold mayS; simp; omega
  rw [hm]
  clear hm
  unfold suV
  obtain ⟨h0, h1, h2⟩ := (show s.mss < 1 ∧ -1 ≤ s.scale ∧ s.scale ≤ 14 by omega)
  go_enter Try.func27, Try.ntmps27
  go_wp2_with fail
  go_ret
  first | exact ⟨rfl, Keeps.alloc _ _ _⟩ | exact ⟨ret_b (by simp; omega), Keeps.alloc _ _ _⟩
set_option maxRecDepth 100000 in
set_option maxHeartbeats 1000000 in
theorem may_p3 (w : World) (s : SU) (h : ((1 ≤ s.mss ∧ 1460 < s.mss) ∧ s.scale < -1)) : Calls Try.prog 27 #[suV s] w fun e w' => e = .returned (.bool (mayS s)) ∧ Keeps [] w w' := by
  have hm : mayS s = false := by unfold mayS; simp; omega
  rw [hm]
  clear hm
  unfold suV
  obtain ⟨h0, h1, h2⟩ := (show 1 ≤ s.mss ∧ 1460 < s.mss ∧ s.scale < -1 by omega)
  go_enter Try.func27, Try.ntmps27
  go_wp2_with fail
  go_ret
  first | exact ⟨rfl, Keeps.alloc _ _ _⟩ | exact ⟨ret_b (by simp; omega), Keeps.alloc _ _ _⟩
set_option maxRecDepth 100000 in
set_option maxHeartbeats 1000000 in
theorem may_p4 (w : World) (s : SU) (h : ((1 ≤ s.mss ∧ 1460 < s.mss) ∧ -1 ≤ s.scale ∧ 14 < s.scale)) : Calls Try.prog 27 #[suV s] w fun e w' => e = .returned (.bool (mayS s)) ∧ Keeps [] w w' := by
  have hm : mayS s = false := by unfold mayS; simp; omega
  rw [hm]
  clear hm
  unfold suV
  obtain ⟨h0, h1, h2, h3⟩ := (show 1 ≤ s.mss ∧ 1460 < s.mss ∧ -1 ≤ s.scale ∧ 14 < s.scale by omega)
  go_enter Try.func27, Try.ntmps27
  go_wp2_with fail
  go_ret
  first | exact ⟨rfl, Keeps.alloc _ _ _⟩ | exact ⟨ret_b (by simp; omega), Keeps.alloc _ _ _⟩
set_option maxRecDepth 100000 in
set_option maxHeartbeats 1000000 in
theorem may_p5 (w : World) (s : SU) (h : ((1 ≤ s.mss ∧ 1460 < s.mss) ∧ -1 ≤ s.scale ∧ s.scale ≤ 14)) : Calls Try.prog 27 #[suV s] w fun e w' => e = .returned (.bool (mayS s)) ∧ Keeps [] w w' := by
  have hm : mayS s = false := by unfold mayS; simp; omega
  rw [hm]
  clear hm
  unfold suV
  obtain ⟨h0, h1, h2, h3⟩ := (show 1 ≤ s.mss ∧ 1460 < s.mss ∧ -1 ≤ s.scale ∧ s.scale ≤ 14 by omega)
  go_enter Try.func27, Try.ntmps27
  go_wp2_with fail
  go_ret
  first | exact ⟨rfl, Keeps.alloc _ _ _⟩ | exact ⟨ret_b (by simp; omega), Keeps.alloc _ _ _⟩
set_option maxRecDepth 100000 in
set_option maxHeartbeats 1000000 in
theorem may_p6 (w : World) (s : SU) (h : ((1 ≤ s.mss ∧ s.mss ≤ 1460) ∧ s.scale < -1)) : Calls Try.prog 27 #[suV s] w fun e w' => e = .returned (.bool (mayS s)) ∧ Keeps [] w w' := by
  have hm : mayS s = false := by unfold mayS; simp; omega
  rw [hm]
  clear hm
  unfold suV
  obtain ⟨h0, h1, h2⟩ := (show 1 ≤ s.mss ∧ s.mss ≤ 1460 ∧ s.scale < -1 by omega)
  go_enter Try.func27, Try.ntmps27
  go_wp2_with fail
  go_ret
  first | exact ⟨rfl, Keeps.alloc _ _ _⟩ | exact ⟨ret_b (by simp; omega), Keeps.alloc _ _ _⟩
set_option maxRecDepth 100000 in
set_option maxHeartbeats 1000000 in
theorem may_p7 (w : World) (s : SU) (h : ((1 ≤ s.mss ∧ s.mss ≤ 1460) ∧ -1 ≤ s.scale ∧ 14 < s.scale)) : Calls Try.prog 27 #[suV s] w fun e w' => e = .returned (.bool (mayS s)) ∧ Keeps [] w w' := by
  have hm : mayS s = false := by unfold mayS; simp; omega
  rw [hm]
  clear hm
  unfold suV
  obtain ⟨h0, h1, h2, h3⟩ := (show 1 ≤ s.mss ∧ s.mss ≤ 1460 ∧ -1 ≤ s.scale ∧ 14 < s.scale by omega)
  go_enter Try.func27, Try.ntmps27
  go_wp2_with fail
  go_ret
  first | exact ⟨rfl, Keeps.alloc _ _ _⟩ | exact ⟨ret_b (by simp; omega), Keeps.alloc _ _ _⟩
set_option maxRecDepth 100000 in
set_option maxHeartbeats 1000000 in
theorem may_p8 (w : World) (s : SU) (h : ((1 ≤ s.mss ∧ s.mss ≤ 1460) ∧ (-1 ≤ s.scale ∧ s.scale ≤ 14) ∧ s.room < 1)) : Calls Try.prog 27 #[suV s] w fun e w' => e = .returned (.bool (mayS s)) ∧ Keeps [] w w' := by
  have hm : mayS s = false := by unfold mayS; simp; omega
  rw [hm]
  clear hm
  unfold suV
  obtain ⟨h0, h1, h2, h3, h4⟩ := (show 1 ≤ s.mss ∧ s.mss ≤ 1460 ∧ -1 ≤ s.scale ∧ s.scale ≤ 14 ∧ s.room < 1 by omega)
  go_enter Try.func27, Try.ntmps27
  go_wp2_with fail
  go_ret
  first | exact ⟨rfl, Keeps.alloc _ _ _⟩ | exact ⟨ret_b (by simp; omega), Keeps.alloc _ _ _⟩
set_option maxRecDepth 100000 in
set_option maxHeartbeats 1000000 in
theorem may_p9 (w : World) (s : SU) (h : ((1 ≤ s.mss ∧ s.mss ≤ 1460) ∧ (-1 ≤ s.scale ∧ s.scale ≤ 14) ∧ 1 ≤ s.room ∧ 131072 < s.room)) : Calls Try.prog 27 #[suV s] w fun e w' => e = .returned (.bool (mayS s)) ∧ Keeps [] w w' := by
  have hm : mayS s = false := by unfold mayS; simp; omega
  rw [hm]
  clear hm
  unfold suV
  obtain ⟨h0, h1, h2, h3, h4, h5⟩ := (show 1 ≤ s.mss ∧ s.mss ≤ 1460 ∧ -1 ≤ s.scale ∧ s.scale ≤ 14 ∧ 1 ≤ s.room ∧ 131072 < s.room by omega)
  go_enter Try.func27, Try.ntmps27
  go_wp2_with fail
  go_ret
  first | exact ⟨rfl, Keeps.alloc _ _ _⟩ | exact ⟨ret_b (by simp; omega), Keeps.alloc _ _ _⟩
set_option maxRecDepth 100000 in
set_option maxHeartbeats 1000000 in
theorem may_p10 (w : World) (s : SU) (h : ((1 ≤ s.mss ∧ s.mss ≤ 1460) ∧ (-1 ≤ s.scale ∧ s.scale ≤ 14) ∧ 1 ≤ s.room ∧ s.room ≤ 131072 ∧ s.rto < 1)) : Calls Try.prog 27 #[suV s] w fun e w' => e = .returned (.bool (mayS s)) ∧ Keeps [] w w' := by
  have hm : mayS s = false := by unfold mayS; simp; omega
  rw [hm]
  clear hm
  unfold suV
  obtain ⟨h0, h1, h2, h3, h4, h5, h6⟩ := (show 1 ≤ s.mss ∧ s.mss ≤ 1460 ∧ -1 ≤ s.scale ∧ s.scale ≤ 14 ∧ 1 ≤ s.room ∧ s.room ≤ 131072 ∧ s.rto < 1 by omega)
  go_enter Try.func27, Try.ntmps27
  go_wp2_with fail
  go_ret
  first | exact ⟨rfl, Keeps.alloc _ _ _⟩ | exact ⟨ret_b (by simp; omega), Keeps.alloc _ _ _⟩
set_option maxRecDepth 100000 in
set_option maxHeartbeats 1000000 in
theorem may_p11 (w : World) (s : SU) (h : ((1 ≤ s.mss ∧ s.mss ≤ 1460) ∧ (-1 ≤ s.scale ∧ s.scale ≤ 14) ∧ 1 ≤ s.room ∧ s.room ≤ 131072 ∧ 1 ≤ s.rto ∧ 1073741824 < s.rto)) : Calls Try.prog 27 #[suV s] w fun e w' => e = .returned (.bool (mayS s)) ∧ Keeps [] w w' := by
  have hm : mayS s = false := by unfold mayS; simp; omega
  rw [hm]
  clear hm
  unfold suV
  obtain ⟨h0, h1, h2, h3, h4, h5, h6, h7⟩ := (show 1 ≤ s.mss ∧ s.mss ≤ 1460 ∧ -1 ≤ s.scale ∧ s.scale ≤ 14 ∧ 1 ≤ s.room ∧ s.room ≤ 131072 ∧ 1 ≤ s.rto ∧ 1073741824 < s.rto by omega)
  go_enter Try.func27, Try.ntmps27
  go_wp2_with fail
  go_ret
  first | exact ⟨rfl, Keeps.alloc _ _ _⟩ | exact ⟨ret_b (by simp; omega), Keeps.alloc _ _ _⟩
set_option maxRecDepth 100000 in
set_option maxHeartbeats 1000000 in
theorem may_p12 (w : World) (s : SU) (h : ((1 ≤ s.mss ∧ s.mss ≤ 1460) ∧ (-1 ≤ s.scale ∧ s.scale ≤ 14) ∧ 1 ≤ s.room ∧ s.room ≤ 131072 ∧ 1 ≤ s.rto ∧ s.rto ≤ 1073741824 ∧ s.tries < 1)) : Calls Try.prog 27 #[suV s] w fun e w' => e = .returned (.bool (mayS s)) ∧ Keeps [] w w' := by
  have hm : mayS s = false := by unfold mayS; simp; omega
  rw [hm]
  clear hm
  unfold suV
  obtain ⟨h0, h1, h2, h3, h4, h5, h6, h7, h8⟩ := (show 1 ≤ s.mss ∧ s.mss ≤ 1460 ∧ -1 ≤ s.scale ∧ s.scale ≤ 14 ∧ 1 ≤ s.room ∧ s.room ≤ 131072 ∧ 1 ≤ s.rto ∧ s.rto ≤ 1073741824 ∧ s.tries < 1 by omega)
  go_enter Try.func27, Try.ntmps27
  go_wp2_with fail
  go_ret
  first | exact ⟨rfl, Keeps.alloc _ _ _⟩ | exact ⟨ret_b (by simp; omega), Keeps.alloc _ _ _⟩
set_option maxRecDepth 100000 in
set_option maxHeartbeats 1000000 in
theorem may_p13 (w : World) (s : SU) (h : ((1 ≤ s.mss ∧ s.mss ≤ 1460) ∧ (-1 ≤ s.scale ∧ s.scale ≤ 14) ∧ 1 ≤ s.room ∧ s.room ≤ 131072 ∧ 1 ≤ s.rto ∧ s.rto ≤ 1073741824 ∧ 1 ≤ s.tries ∧ 10 < s.tries)) : Calls Try.prog 27 #[suV s] w fun e w' => e = .returned (.bool (mayS s)) ∧ Keeps [] w w' := by
  have hm : mayS s = false := by unfold mayS; simp; omega
  rw [hm]
  clear hm
  unfold suV
  obtain ⟨h0, h1, h2, h3, h4, h5, h6, h7, h8, h9⟩ := (show 1 ≤ s.mss ∧ s.mss ≤ 1460 ∧ -1 ≤ s.scale ∧ s.scale ≤ 14 ∧ 1 ≤ s.room ∧ s.room ≤ 131072 ∧ 1 ≤ s.rto ∧ s.rto ≤ 1073741824 ∧ 1 ≤ s.tries ∧ 10 < s.tries by omega)
  go_enter Try.func27, Try.ntmps27
  go_wp2_with fail
  go_ret
  first | exact ⟨rfl, Keeps.alloc _ _ _⟩ | exact ⟨ret_b (by simp; omega), Keeps.alloc _ _ _⟩
set_option maxRecDepth 100000 in
set_option maxHeartbeats 1000000 in
theorem may_p14 (w : World) (s : SU) (h : ((1 ≤ s.mss ∧ s.mss ≤ 1460) ∧ (-1 ≤ s.scale ∧ s.scale ≤ 14) ∧ 1 ≤ s.room ∧ s.room ≤ 131072 ∧ 1 ≤ s.rto ∧ s.rto ≤ 1073741824 ∧ 1 ≤ s.tries ∧ s.tries ≤ 10)) : Calls Try.prog 27 #[suV s] w fun e w' => e = .returned (.bool (mayS s)) ∧ Keeps [] w w' := by
  have hm : mayS s = true := by unfold mayS; simp; omega
  rw [hm]
  clear hm
  unfold suV
  obtain ⟨h0, h1, h2, h3, h4, h5, h6, h7, h8, h9⟩ := (show 1 ≤ s.mss ∧ s.mss ≤ 1460 ∧ -1 ≤ s.scale ∧ s.scale ≤ 14 ∧ 1 ≤ s.room ∧ s.room ≤ 131072 ∧ 1 ≤ s.rto ∧ s.rto ≤ 1073741824 ∧ 1 ≤ s.tries ∧ s.tries ≤ 10 by omega)
  go_enter Try.func27, Try.ntmps27
  go_wp2_with fail
  go_ret
  first | exact ⟨rfl, Keeps.alloc _ _ _⟩ | exact ⟨ret_b (by simp; omega), Keeps.alloc _ _ _⟩
theorem may_all (w : World) (s : SU) : Calls Try.prog 27 #[suV s] w fun e w' => e = .returned (.bool (mayS s)) ∧ Keeps [] w w' := by
  rcases (show (s.mss < 1) ∨ (1 ≤ s.mss ∧ 1460 < s.mss) ∨ (1 ≤ s.mss ∧ s.mss ≤ 1460) by omega) with hm | hm | hm
  · rcases (show (s.scale < -1) ∨ (-1 ≤ s.scale ∧ 14 < s.scale) ∨ (-1 ≤ s.scale ∧ s.scale ≤ 14) by omega) with hc | hc | hc
    · exact may_p0 w s ⟨hm, hc⟩
    · exact may_p1 w s ⟨hm, hc⟩
    · exact may_p2 w s ⟨hm, hc⟩
  · rcases (show (s.scale < -1) ∨ (-1 ≤ s.scale ∧ 14 < s.scale) ∨ (-1 ≤ s.scale ∧ s.scale ≤ 14) by omega) with hc | hc | hc
    · exact may_p3 w s ⟨hm, hc⟩
    · exact may_p4 w s ⟨hm, hc⟩
    · exact may_p5 w s ⟨hm, hc⟩
  · rcases (show (s.scale < -1) ∨ (-1 ≤ s.scale ∧ 14 < s.scale) ∨ (-1 ≤ s.scale ∧ s.scale ≤ 14) by omega) with hc | hc | hc
    · exact may_p6 w s ⟨hm, hc⟩
    · exact may_p7 w s ⟨hm, hc⟩
    · rcases (show s.room < 1 ∨ (1 ≤ s.room ∧ 131072 < s.room) ∨ (1 ≤ s.room ∧ s.room ≤ 131072) by omega) with hr | hr | hr
      · exact may_p8 w s ⟨hm, hc, hr⟩
      · exact may_p9 w s ⟨hm, hc, hr⟩
      · rcases (show s.rto < 1 ∨ (1 ≤ s.rto ∧ 1073741824 < s.rto) ∨ (1 ≤ s.rto ∧ s.rto ≤ 1073741824) by omega) with ht | ht | ht
        · exact may_p10 w s ⟨hm, hc, hr.1, hr.2, ht⟩
        · exact may_p11 w s ⟨hm, hc, hr.1, hr.2, ht⟩
        · rcases (show s.tries < 1 ∨ (1 ≤ s.tries ∧ 10 < s.tries) ∨ (1 ≤ s.tries ∧ s.tries ≤ 10) by omega) with hu | hu | hu
          · exact may_p12 w s ⟨hm, hc, hr.1, hr.2, ht.1, ht.2, hu⟩
          · exact may_p13 w s ⟨hm, hc, hr.1, hr.2, ht.1, ht.2, hu⟩
          · exact may_p14 w s ⟨hm, hc, hr.1, hr.2, ht.1, ht.2, hu⟩
end Go.Proofs.Ytgaidloicmkdaaa
