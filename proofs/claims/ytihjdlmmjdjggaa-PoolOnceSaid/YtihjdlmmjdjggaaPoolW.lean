/-
  The walks of package pool: each method does to a pool in memory what a plain function does to the pool's plain state. Condition: the pool's numbers are in the ranges of their kinds.
-/
import Derived.Test.YtihjdlmmjdjggaaRows
import Derived.Test.YtihjdlmmjdjggaaKitA
import Derived.ProofKit
import Derived.Lib.Hide
import Derived.Outline
import Derived.BigQuiet
import Derived.Deep.QuietTactic
import Derived.StillTailTactics
namespace Go.Proofs.Ytihjdlmmjdjggaa
open Go.RowKit

/-- A pool's plain state. -/
structure PS where
  low : Int
  high : Int
  rest : Int
  taken : List (Int × Unit)
  til : List (Int × Int)
  now : Int

def PS.ok (s : PS) : Prop := 1 ≤ s.low ∧ s.low ≤ s.high ∧ 0 ≤ s.high ∧ s.high ≤ 65535 ∧ 0 ≤ s.rest ∧ s.rest ≤ 1099511627776 ∧ 0 ≤ s.now ∧ s.now ≤ 1099511627776

def encT : Unit → Value := fun _ => .bool true
def encU : Int → Value := fun t => .int .u64 t

/-- Block b of w is the pool s, its maps in blocks mt and mu. -/
structure PoolAt (w : World) (b mt mu : Nat) (s : PS) : Prop where
  head : w.heap[b]? = some (.cells #[.int .u16 s.low, .int .u16 s.high, .int .u64 s.rest, .map (some mt), .map (some mu), .int .u64 s.now] 49 (0, 0))
  tk : MapAt w mt .u16 encT s.taken
  un : MapAt w mu .u16 encU s.til
  ne : mt ≠ mu

theorem PoolAt.c0 {w : World} {b mt mu : Nat} {s : PS} (h : PoolAt w b mt mu s) : w.cell? ⟨b, 0, none⟩ = some (.int .u16 s.low) := cell_of_block h.head 0
theorem PoolAt.c1 {w : World} {b mt mu : Nat} {s : PS} (h : PoolAt w b mt mu s) : w.cell? ⟨b, 1, none⟩ = some (.int .u16 s.high) := cell_of_block h.head 1
theorem PoolAt.c2 {w : World} {b mt mu : Nat} {s : PS} (h : PoolAt w b mt mu s) : w.cell? ⟨b, 2, none⟩ = some (.int .u64 s.rest) := cell_of_block h.head 2
theorem PoolAt.c3 {w : World} {b mt mu : Nat} {s : PS} (h : PoolAt w b mt mu s) : w.cell? ⟨b, 3, none⟩ = some (.map (some mt)) := cell_of_block h.head 3
theorem PoolAt.c4 {w : World} {b mt mu : Nat} {s : PS} (h : PoolAt w b mt mu s) : w.cell? ⟨b, 4, none⟩ = some (.map (some mu)) := cell_of_block h.head 4
theorem PoolAt.c5 {w : World} {b mt mu : Nat} {s : PS} (h : PoolAt w b mt mu s) : w.cell? ⟨b, 5, none⟩ = some (.int .u64 s.now) := cell_of_block h.head 5
theorem PoolAt.fz {w : World} {b mt mu : Nat} {s : PS} (h : PoolAt w b mt mu s) (k : Nat) : w.frozen? ⟨b, k, none⟩ = false := free_of_block h.head k
theorem PoolAt.bt {w : World} {b mt mu : Nat} {s : PS} (h : PoolAt w b mt mu s) : b ≠ mt := by
  intro e; subst e
  obtain ⟨es, c, h1, _⟩ := h.tk
  rw [h.head] at h1; cases h1
theorem PoolAt.bu {w : World} {b mt mu : Nat} {s : PS} (h : PoolAt w b mt mu s) : b ≠ mu := by
  intro e; subst e
  obtain ⟨es, c, h1, _⟩ := h.un
  rw [h.head] at h1; cases h1
theorem PoolAt.drewN {w : World} {b mt mu : Nat} {s : PS} (h : PoolAt w b mt mu s) (n : Nat) : PoolAt (w.drewN n) b mt mu s := ⟨h.head, h.tk, h.un, h.ne⟩

theorem Try.zero4 (w : World) : (zeroValue 4).run Try.prog w = .ok (.bool false) w := by kernel_rfl
theorem Try.zero23 (w : World) : (zeroValue 23).run Try.prog w = .ok (.int .u64 0) w := by kernel_rfl

theorem PoolAt.lt {w : World} {b mt mu : Nat} {s : PS} (h : PoolAt w b mt mu s) (p : Int) (n : Nat) :
    (Instr.lookup 47 (.map (some mt)) (.int .u16 p) false).run Try.prog (w.drewN n) = .ok (.bool (AL.find p s.taken).isSome) (w.drewN n) := by
  rw [h.tk.look (P := Try.prog) Try.underlying47 Try.underlying22 Try.zero4 p (w.drewN n) rfl false]
  cases AL.find p s.taken <;> rfl
theorem PoolAt.lu {w : World} {b mt mu : Nat} {s : PS} (h : PoolAt w b mt mu s) (p : Int) (n : Nat) :
    (Instr.lookup 39 (.map (some mu)) (.int .u16 p) false).run Try.prog (w.drewN n) = .ok (.int .u64 ((AL.find p s.til).getD 0)) (w.drewN n) := by
  rw [h.un.look (P := Try.prog) Try.underlying39 Try.underlying22 Try.zero23 p (w.drewN n) rfl false]
  cases AL.find p s.til <;> rfl

/-! ### none, at, all, free -/
set_option maxHeartbeats 400000 in
theorem none_nil (w : World) : Calls Try.prog 16 #[.pointer none] w fun e w' => e = .returned (.bool true) ∧ w = w' := by
  go_enter Try.func16, Try.ntmps16
  go_wp2
  go_ret
  exact ⟨rfl, rfl⟩
set_option maxHeartbeats 400000 in
theorem none_any {w : World} {b mt mu : Nat} {s : PS} (h : PoolAt w b mt mu s) : Calls Try.prog 16 #[.pointer (some ⟨b, 0, none⟩)] w fun e w' => e = .returned (.bool false) ∧ w = w' := by
  have h3 := h.c3
  clear h
  have hk := fun w => run_eql_map_nil (P := Try.prog) w _ _ _ (some mt) Try.underlying47
  go_enter Try.func16, Try.ntmps16
  go_wp2
  go_ret
  exact ⟨rfl, rfl⟩

set_option maxHeartbeats 400000 in
theorem at_any {w : World} {b mt mu : Nat} {s : PS} (h : PoolAt w b mt mu s) (t : Int) :
    Calls Try.prog 17 #[.pointer (some ⟨b, 0, none⟩), .int .u64 t] w fun e w' => e = .returned (.tuple #[]) ∧ PoolAt w' b mt mu { s with now := max s.now t } ∧ Keeps [b] w w' := by
  have h5 := h.c5
  have hz := h.fz 5
  have fin : ∀ x, max s.now t = x → PoolAt (w.setCell ⟨b, 5, none⟩ (.int .u64 x)) b mt mu { s with now := max s.now t } ∧ Keeps [b] w (w.setCell ⟨b, 5, none⟩ (.int .u64 x)) := by
    intro x hx
    subst hx
    refine ⟨⟨?_, h.tk.of_heap (Below.heap_setCell _ _ _ _ (fun e => h.bt e.symm)), h.un.of_heap (Below.heap_setCell _ _ _ _ (fun e => h.bu e.symm)), h.ne⟩, Keeps.setCell w ⟨b, 5, none⟩ _⟩
    rw [heap_setCell_self h.head]; rfl
  have F := Lib.hid fin
  clear fin h
  go_enter Try.func17, Try.ntmps17
  go_wp2
  all_goals
    go_end0
    refine ⟨rfl, F.out _ (by omega)⟩

set_option maxHeartbeats 400000 in
theorem all_any {w : World} {b mt mu : Nat} {s : PS} (h : PoolAt w b mt mu s) (ok : s.ok) :
    Calls Try.prog 18 #[.pointer (some ⟨b, 0, none⟩)] w fun e w' => e = .returned (.int .i64 (s.high - s.low + 1)) ∧ ∃ n, w' = w.drewN n := by
  obtain ⟨b0, b1, c0, c1, _⟩ := ok
  have h0 := h.c0
  have h1 := h.c1
  clear h
  go_enter Try.func18, Try.ntmps18
  go_wp2
  go_quiet (fail)
  go_wp2
  go_ret
  exact ⟨rfl, _, rfl⟩

def PS.tkn (s : PS) (p : Int) : Bool := (AL.find p s.taken).isSome
def PS.til' (s : PS) (p : Int) : Int := (AL.find p s.til).getD 0
def PS.free (s : PS) (p : Int) : Bool := !s.tkn p && decide (s.til' p ≤ s.now)

set_option maxHeartbeats 400000 in
theorem free_any {w : World} {b mt mu : Nat} {s : PS} (h : PoolAt w b mt mu s) (p : Int) :
    Calls Try.prog 19 #[.pointer (some ⟨b, 0, none⟩), .int .u16 p] w fun e w' => e = .returned (.bool (s.free p)) ∧ ∃ n, w' = w.drewN n := by
  have h3 := h.c3
  have h4 := h.c4
  have h5 := h.c5
  have hl := h.lt p
  have hu := h.lu p
  clear h
  by_cases ht : (AL.find p s.taken).isSome = true
  · have fin : s.free p = false := by simp [PS.free, PS.tkn, ht]
    have F := Lib.hid fin
    clear fin
    simp only [ht] at hl
    clear ht hu
    go_enter Try.func19, Try.ntmps19
    go_wp2
    go_quiet (fail)
    go_wp2
    go_ret
    exact ⟨by rw [F.out]; rfl, _, rfl⟩
  · simp only [Bool.not_eq_true] at ht
    have fin : s.free p = decide (s.til' p ≤ s.now) := by simp [PS.free, PS.tkn, ht]
    have F := Lib.hid fin
    clear fin
    simp only [ht] at hl
    clear ht
    simp only [← PS.til'.eq_1] at hu
    go_enter Try.func19, Try.ntmps19
    go_wp2
    go_quiet (fail)
    go_wp2
    go_ret
    exact ⟨by rw [F.out]; rfl, _, rfl⟩

/-! ### Take -/
def PS.scan (s : PS) : Nat → Int → Option Int
  | 0, _ => none
  | n + 1, p => if s.free p then some p else s.scan n (p + 1)
def PS.at (s : PS) (t : Int) : PS := { s with now := max s.now t }
def PS.num (s : PS) : Nat := (s.high - s.low + 1).toNat
def PS.got (s : PS) (p : Int) : PS := { s with taken := AL.put p () s.taken, til := AL.del p s.til }
def maxTime : Int := 1099511627776
def PS.take (s : PS) (t : Int) : Int × Int × PS :=
  if t > maxTime then (0, 1, s) else
  match (s.at t).scan (s.at t).num s.low with
  | some p => (p, 0, (s.at t).got p)
  | none => (0, 7, s.at t)
theorem PS.at_ok {s : PS} (h : s.ok) {t : Int} (h1 : t ≤ 1099511627776) : (s.at t).ok := by
  unfold PS.ok at *
  simp only [PS.at]
  omega

theorem PoolAt.got {w w1 w2 : World} {b mt mu : Nat} {s : PS} (h : PoolAt w b mt mu s) {p : Int} (m1 : MapAt w1 mt .u16 encT (AL.put p () s.taken)) (t1 : w.mapTurned w1 mt)
    (m2 : MapAt w2 mu .u16 encU (AL.del p s.til)) (t2 : w1.mapTurned w2 mu) : PoolAt w2 b mt mu (s.got p) ∧ Keeps [b, mt, mu] w w2 := by
  have k1 := Keeps.turned t1
  have k2 := Keeps.turned t2
  have hb := (Array.getElem?_eq_some_iff.1 h.head).1
  refine ⟨⟨?_, ?_, m2, h.ne⟩, (k1.mono (by simp)).trans (k2.mono (by simp))⟩
  · rw [k2.block b (Nat.lt_of_lt_of_le hb k1.size) (by simp [h.bu]), k1.block b hb (by simp [h.bt])]
    exact h.head
  · exact m1.of_heap (k2.block mt (Nat.lt_of_lt_of_le h.tk.lt k1.size) (by simp [h.ne]))

set_option maxHeartbeats 1000000 in
theorem take_any {w : World} {b mt mu : Nat} {s : PS} (h : PoolAt w b mt mu s) (ok : s.ok) (t : Int) :
    Calls Try.prog 10 #[.pointer (some ⟨b, 0, none⟩), .int .u64 t] w fun e w' =>
      e = .returned (.tuple #[.int .u16 (s.take t).1, .int .i64 (s.take t).2.1]) ∧ PoolAt w' b mt mu (s.take t).2.2 ∧ Keeps [b, mt, mu] w w' := by
  by_cases hm : maxTime < t
  · have fin : s.take t = (0, 1, s) := by simp [PS.take, hm]
    have F := Lib.hid fin
    clear fin
    unfold maxTime at hm
    go_enter Try.func10, Try.ntmps10
    go_wp2_with fail
    refine (none_any h).mono ?_
    rintro e w1 ⟨rfl, rfl⟩
    go_wp2_with fail
    go_ret2
    rw [F.out]
    exact ⟨rfl, h, Keeps.refl _ _⟩
  · have fin : s.take t = (match (s.at t).scan (s.at t).num s.low with | some p => (p, 0, (s.at t).got p) | none => (0, 7, s.at t)) := by simp [PS.take, hm]
    have F := Lib.hid fin
    clear fin
    unfold maxTime at hm
    have hm' : t ≤ 1099511627776 := by omega
    clear hm
    have ok1 := PS.at_ok ok hm'
    have hat := at_any h t
    change Calls _ _ _ _ (fun e w' => e = .returned (.tuple #[]) ∧ PoolAt w' b mt mu (s.at t) ∧ Keeps [b] w w') at hat
    go_enter Try.func10, Try.ntmps10
    go_wp2_with fail
    refine (none_any h).mono ?_
    rintro e w1 ⟨rfl, rfl⟩
    go_wp2_with fail
    refine hat.mono ?_
    rintro e w1 ⟨rfl, h1, k1⟩
    clear hat h
    have hl : s.low = (s.at t).low := rfl
    rw [hl] at F
    clear hl
    generalize hs1 : s.at t = s1 at *
    clear hs1
    go_wp2_with fail
    refine (all_any h1 ok1).mono ?_
    rintro e w2 ⟨rfl, n2, rfl⟩
    have h2 := h1.drewN n2
    have k2 : Keeps [b, mt, mu] w (w1.drewN n2) := (k1.mono (by simp)).trans (Keeps.drewN _ _ _)
    clear h1 k1
    generalize w1.drewN n2 = w2 at *
    clear w1 n2
    obtain ⟨b0, b1, c0, c1, d0, d1, e0, e1⟩ := ok1
    go_wp2_with fail
    go_loopw [19] (fun c wr => ∃ k : Nat, k ≤ s1.num ∧ c = .int .i64 k ∧ PoolAt wr b mt mu s1 ∧ Keeps [b, mt, mu] w wr ∧ s1.scan s1.num s1.low = s1.scan (s1.num - k) (s1.low + k)) (fun c _ => s1.num - (intOf c).toNat)
    case atStart => exact ⟨0, Nat.zero_le _, rfl, h2, k2, by simp⟩
    case round =>
      obtain ⟨k, hk, rfl, h3, k3, hs⟩ := hrel
      have HS := Lib.hid hs
      clear hs h2 k2
      have hc0 := h3.c0
      have hc3 := h3.c3
      by_cases hlt : k < s1.num
      · have hn : (k : Int) < s1.high - s1.low + 1 := by unfold PS.num at hlt; omega
        have hsc : s1.scan (s1.num - k) (s1.low + k) = if s1.free (s1.low + k) then some (s1.low + k) else s1.scan (s1.num - (k + 1)) (s1.low + k + 1) := by
          rw [show s1.num - k = (s1.num - (k + 1)) + 1 by omega]; rfl
        have HC := Lib.hid hsc
        clear hsc
        by_cases hf : s1.free (s1.low + k) = true
        · go_wp2_with fail
          refine (free_any h3 _).mono ?_
          rintro e w4 ⟨rfl, n4, rfl⟩
          simp only [hf]
          have h4 := h3.drewN n4
          have k4 := k3.trans (Keeps.drewN [b, mt, mu] wr n4)
          go_wp2_with (at_mapUpdate; refine wpList_mapUpdate_at (kk := .u16) (enc := encT) rfl _ _ _ rfl Try.underlying47 Try.underlying22 rfl _ () rfl rfl h4.tk ?_)
          intro w5 m5 t5
          have hb5 : w5.heap[b]? = (wr.drewN n4).heap[b]? := (Keeps.turned t5).block b (Array.getElem?_eq_some_iff.1 h4.head).1 (by simp [h4.bt])
          have hc4 : w5.cell? ⟨b, 4, none⟩ = some (.map (some mu)) := by rw [cell_of_block (hb5.trans h4.head)]; rfl
          have hu5 : MapAt w5 mu .u16 encU s1.til := h4.un.of_heap ((Keeps.turned t5).block mu h4.un.lt (by simp [h4.ne.symm]))
          go_wp2_with (at_delete; refine wpList_delete_at (kk := .u16) (enc := encU) rfl _ _ rfl Try.underlying39 Try.underlying22 rfl _ rfl hu5 ?_)
          intro w6 m6 t6
          obtain ⟨h6, k6⟩ := h4.got m5 t5 m6 t6
          go_wp2_with fail
          go_ret2
          have hfin : s.take t = (s1.low + k, 0, s1.got (s1.low + k)) := by rw [F.out, HS.out, HC.out, if_pos hf]
          rw [hfin]
          exact ⟨rfl, h6, k4.trans k6⟩
        · simp only [Bool.not_eq_true] at hf
          go_wp2_with fail
          refine (free_any h3 _).mono ?_
          rintro e w4 ⟨rfl, n4, rfl⟩
          simp only [hf]
          have h4 := h3.drewN n4
          have k4 := k3.trans (Keeps.drewN [b, mt, mu] wr n4)
          go_wp2_with fail
          go_roundw
          case rel => exact ⟨k + 1, by omega, by go_num, h4, k4, by rw [HS.out, HC.out, hf]; simp; rw [Int.add_assoc]⟩
          case measure => simp [intOf]; omega
      · have hn : s1.high - s1.low + 1 ≤ (k : Int) := by unfold PS.num at hlt; omega
        have hfin : s.take t = (0, 7, s1) := by rw [F.out, HS.out, show s1.num - k = 0 by omega]; rfl
        have HF := Lib.hid hfin
        clear hfin hlt
        go_wp2_with fail
        go_ret2
        rw [HF.out]
        exact ⟨rfl, h3, k3⟩

/-! ### Give -/
def PS.give (s : PS) (p t : Int) : Int × PS :=
  if t > maxTime then (1, s) else if s.tkn p = false then (6, s) else
  (0, { s.at t with taken := AL.del p s.taken, til := AL.put p ((s.at t).now + s.rest) s.til })

set_option maxHeartbeats 1000000 in
theorem give_any {w : World} {b mt mu : Nat} {s : PS} (h : PoolAt w b mt mu s) (ok : s.ok) (p t : Int) :
    Calls Try.prog 11 #[.pointer (some ⟨b, 0, none⟩), .int .u16 p, .int .u64 t] w fun e w' =>
      e = .returned (.int .i64 (s.give p t).1) ∧ PoolAt w' b mt mu (s.give p t).2 ∧ Keeps [b, mt, mu] w w' := by
  by_cases hm : maxTime < t
  · have fin : s.give p t = (1, s) := by simp [PS.give, hm]
    have F := Lib.hid fin
    clear fin
    unfold maxTime at hm
    go_enter Try.func11, Try.ntmps11
    go_wp2_with fail
    refine (none_any h).mono ?_
    rintro e w1 ⟨rfl, rfl⟩
    go_wp2_with fail
    go_ret
    rw [F.out]
    exact ⟨rfl, h, Keeps.refl _ _⟩
  · have hm1 := hm
    unfold maxTime at hm
    have hm' : t ≤ 1099511627776 := by omega
    clear hm
    have h3 := h.c3
    have hl := h.lt p
    have hl0 := h.lt p 0
    have hd : w.drewN 0 = w := rfl
    rw [hd] at hl0
    clear hd
    by_cases ht : s.tkn p = true
    · have fin : s.give p t = (0, { s.at t with taken := AL.del p s.taken, til := AL.put p ((s.at t).now + s.rest) s.til }) := by simp [PS.give, hm1, ht]
      have F := Lib.hid fin
      clear fin
      have hat := at_any h t
      change Calls _ _ _ _ (fun e w' => e = .returned (.tuple #[]) ∧ PoolAt w' b mt mu (s.at t) ∧ Keeps [b] w w') at hat
      have ok1 := PS.at_ok ok hm'
      simp only [show (AL.find p s.taken).isSome = true from ht] at hl0
      clear ht hl
      go_enter Try.func11, Try.ntmps11
      go_wp2_with fail
      refine (none_any h).mono ?_
      rintro e w1 ⟨rfl, rfl⟩
      go_wp2_with fail
      refine hat.mono ?_
      rintro e w1 ⟨rfl, h1, k1⟩
      clear hat hl0 h3
      have g3 := h1.c3
      go_wp2_with (at_delete; refine wpList_delete_at (kk := .u16) (enc := encT) rfl _ _ rfl Try.underlying47 Try.underlying22 rfl _ rfl h1.tk ?_)
      intro w2 m2 t2
      have k2 := Keeps.turned t2
      have hb2 : w2.heap[b]? = w1.heap[b]? := k2.block b (Array.getElem?_eq_some_iff.1 h1.head).1 (by simp [h1.bt])
      have h2 : PoolAt w2 b mt mu { s.at t with taken := AL.del p s.taken } := ⟨hb2.trans h1.head, m2, h1.un.of_heap (k2.block mu h1.un.lt (by simp [h1.ne.symm])), h1.ne⟩
      clear g3
      have g2 : w2.cell? ⟨b, 2, none⟩ = some (.int .u64 (s.at t).rest) := h2.c2
      have g4 := h2.c4
      have g5 : w2.cell? ⟨b, 5, none⟩ = some (.int .u64 (s.at t).now) := h2.c5
      obtain ⟨b0, b1, c0, c1, d0, d1, e0, e1⟩ := ok1
      have hsum : IntKind.u64.wrap ((s.at t).now + (s.at t).rest) = (s.at t).now + (s.at t).rest := IntWalk.u64_in _ (by omega)
      go_wp2_with fail
      go_still_tail 14, (by kernel_rfl)
      refine wpList_mapUpdate_at (kk := .u16) (enc := encU) rfl _ _ _ rfl Try.underlying39 Try.underlying22 rfl _ _ rfl rfl (h2.un.of_heap rfl) ?_
      intro w3 m3 t3
      clear hsum
      have k3 := Keeps.turned t3
      have hb3 := k3.block b (Array.getElem?_eq_some_iff.1 h2.head).1 (by simp [h2.bu])
      have k4 : Keeps [b, mt, mu] w w3 := (k1.mono (by simp)).trans (((k2.mono (by simp)).trans (Keeps.drew _ _)).trans (k3.mono (by simp)))
      have h4 : PoolAt w3 b mt mu (s.give p t).2 := by
        rw [F.out]
        exact ⟨hb3.trans h2.head, h2.tk.of_heap (k3.block mt h2.tk.lt (by simp [h2.ne])), m3, h2.ne⟩
      go_wp2_with fail
      go_ret
      exact ⟨by rw [F.out]; rfl, h4, k4⟩
    · simp only [Bool.not_eq_true] at ht
      have fin : s.give p t = (6, s) := by simp [PS.give, hm1, ht]
      have F := Lib.hid fin
      clear fin
      simp only [show (AL.find p s.taken).isSome = false from ht] at hl0
      clear ht hl
      go_enter Try.func11, Try.ntmps11
      go_wp2_with fail
      refine (none_any h).mono ?_
      rintro e w1 ⟨rfl, rfl⟩
      go_wp2_with fail
      go_ret
      rw [F.out]
      exact ⟨rfl, h, Keeps.refl _ _⟩

/-! ### Taken, Count, Free -/
set_option maxHeartbeats 400000 in
theorem taken_any {w : World} {b mt mu : Nat} {s : PS} (h : PoolAt w b mt mu s) (p : Int) :
    Calls Try.prog 14 #[.pointer (some ⟨b, 0, none⟩), .int .u16 p] w fun e w' => e = .returned (.bool (s.tkn p)) ∧ w = w' := by
  have h3 := h.c3
  have hl0 := h.lt p 0
  have hd : w.drewN 0 = w := rfl
  rw [hd, show (AL.find p s.taken).isSome = s.tkn p from rfl] at hl0
  clear hd
  go_enter Try.func14, Try.ntmps14
  go_wp2_with fail
  refine (none_any h).mono ?_
  rintro e w1 ⟨rfl, rfl⟩
  clear h
  go_wp2_with fail
  go_ret
  exact ⟨rfl, rfl⟩

set_option maxHeartbeats 400000 in
theorem count_any {w : World} {b mt mu : Nat} {s : PS} (h : PoolAt w b mt mu s) :
    Calls Try.prog 12 #[.pointer (some ⟨b, 0, none⟩)] w fun e w' => e = .returned (.int .i64 s.taken.length) ∧ w = w' := by
  have h3 := h.c3
  have hl := h.tk.len (P := Try.prog) Try.underlying47
  go_enter Try.func12, Try.ntmps12
  go_wp2_with fail
  refine (none_any h).mono ?_
  rintro e w1 ⟨rfl, rfl⟩
  clear h
  go_wp2_with fail
  go_ret
  exact ⟨rfl, rfl⟩

def PS.frees (s : PS) : Nat → Int → Nat
  | 0, _ => 0
  | n + 1, p => (if s.free p then 1 else 0) + s.frees n (p + 1)
theorem PS.frees_snoc (s : PS) : ∀ (n : Nat) (p : Int), s.frees (n + 1) p = s.frees n p + (if s.free (p + n) then 1 else 0)
  | 0, p => by simp [PS.frees]
  | n + 1, p => by
    have h := PS.frees_snoc s n (p + 1)
    rw [PS.frees, h, PS.frees]
    rw [show p + 1 + (n : Int) = p + (n + 1 : Nat) by omega]
    omega
theorem PS.frees_le (s : PS) : ∀ (n : Nat) (p : Int), s.frees n p ≤ n
  | 0, p => by simp [PS.frees]
  | n + 1, p => by
    have h := PS.frees_le s n (p + 1)
    rw [PS.frees]
    split <;> omega

set_option maxHeartbeats 1000000 in
theorem frees_any {w : World} {b mt mu : Nat} {s : PS} (h : PoolAt w b mt mu s) (ok : s.ok) (t : Int) (hm : t ≤ 1099511627776) :
    Calls Try.prog 13 #[.pointer (some ⟨b, 0, none⟩), .int .u64 t] w fun e w' =>
      e = .returned (.int .i64 ((s.at t).frees s.num s.low)) ∧ PoolAt w' b mt mu (s.at t) ∧ Keeps [b] w w' := by
  have ok1 := PS.at_ok ok hm
  have hat := at_any h t
  change Calls _ _ _ _ (fun e w' => e = .returned (.tuple #[]) ∧ PoolAt w' b mt mu (s.at t) ∧ Keeps [b] w w') at hat
  rw [show s.low = (s.at t).low from rfl, show s.num = (s.at t).num from rfl]
  generalize s.at t = s1 at *
  clear ok
  go_enter Try.func13, Try.ntmps13
  go_wp2_with fail
  refine (none_any h).mono ?_
  rintro e w1 ⟨rfl, rfl⟩
  go_wp2_with fail
  refine hat.mono ?_
  rintro e w1 ⟨rfl, h1, k1⟩
  clear hat h
  go_wp2_with fail
  refine (all_any h1 ok1).mono ?_
  rintro e w2 ⟨rfl, n2, rfl⟩
  have h2 := h1.drewN n2
  have k2 : Keeps [b] w (w1.drewN n2) := k1.trans (Keeps.drewN _ _ _)
  clear h1 k1
  generalize w1.drewN n2 = w2 at *
  clear w1 n2
  obtain ⟨b0, b1, c0, c1, d0, d1, e0, e1⟩ := ok1
  have hnum : (s1.num : Int) = s1.high - s1.low + 1 := by unfold PS.num; omega
  have HN := Lib.hid hnum
  clear hnum
  go_wp2_with fail
  go_loopw [5, 18] (fun n c wr => ∃ k : Nat, k ≤ s1.num ∧ c = .int .i64 k ∧ n = .int .i64 (s1.frees k s1.low) ∧ PoolAt wr b mt mu s1 ∧ Keeps [b] w wr) (fun _ c _ => s1.num - (intOf c).toNat)
  case atStart => exact ⟨0, Nat.zero_le _, rfl, rfl, h2, k2⟩
  case round =>
    obtain ⟨k, hk, rfl, rfl, h3, k3⟩ := hrel
    clear h2 k2
    have hc0 := h3.c0
    have hle := s1.frees_le k s1.low
    by_cases hlt : k < s1.num
    · have hn : (k : Int) < s1.high - s1.low + 1 := by have := HN.out; omega
      have hb : s1.high - s1.low + 1 ≤ 65536 := by omega
      have hs := s1.frees_snoc k s1.low
      have HS := Lib.hid hs
      clear hs
      by_cases hf : s1.free (s1.low + k) = true
      all_goals
        try simp only [Bool.not_eq_true] at hf
        go_wp2_with fail
        refine (free_any h3 _).mono ?_
        rintro e w4 ⟨rfl, n4, rfl⟩
        have h4 := h3.drewN n4
        have k4 := k3.trans (Keeps.drewN [b] wr n4)
        simp only [hf]
        go_wp2_with fail
        go_roundw
        case rel => exact ⟨k + 1, by omega, by go_num, by rw [HS.out]; simp [hf], h4, k4⟩
        case measure => simp [intOf]; omega
    · have hn : s1.high - s1.low + 1 ≤ (k : Int) := by have := HN.out; omega
      have hkn : k = s1.num := by omega
      subst hkn
      clear hlt hk
      go_wp2_with fail
      go_ret
      exact ⟨rfl, h3, k3⟩
end Go.Proofs.Ytihjdlmmjdjggaa
