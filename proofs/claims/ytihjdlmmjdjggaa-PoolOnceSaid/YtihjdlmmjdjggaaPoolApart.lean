/-
  The walk of the law PoolApart. No condition.
-/
import Derived.Test.YtihjdlmmjdjggaaPoolL
import Derived.Test.YtihjdlmmjdjggaaPoolP
import Derived.Test.YtihjdlmmjdjggaaPoolO
import Derived.Deep.LoopGhost
import Derived.LaidEqlPtr
import Derived.Deep.DeepCutAuto
namespace Go.Proofs.Ytihjdlmmjdjggaa
open Go.RowKit

theorem calls_gen' {P : Program} {f : FuncId} {args : Array Value} {w : World} {R : Ending → World → Prop} (h : ∀ W, W = w → Calls P f args W R) : Calls P f args w R := h w rfl

theorem PS.take_ok {s : PS} (h : s.ok) (t : Int) : (s.take t).2.2.ok := by
  unfold PS.take
  split
  · exact h
  · rename_i hm
    have h1 := PS.at_ok h (t := t) (by unfold maxTime at hm; omega)
    cases hs : (s.at t).scan (s.at t).num s.low with
    | none => exact h1
    | some p => exact h1
theorem PS.give_ok {s : PS} (h : s.ok) (p t : Int) : (s.give p t).2.ok := by
  unfold PS.give
  split
  · exact h
  · rename_i hm
    split
    · exact h
    · exact PS.at_ok h (t := t) (by unfold maxTime at hm; omega)
theorem newBad_ok {low high rest : Int} (h : newBad low high rest = false) (h0 : 0 ≤ low) (h1 : high ≤ 65535) (h2 : 0 ≤ rest) : (PS.new low high rest).ok := by
  unfold newBad maxTime at h
  simp only [Bool.or_eq_false_iff, decide_eq_false_iff_not] at h
  unfold PS.ok PS.new
  simp only []
  omega

theorem PoolAt.keep {w w' : World} {b mt mu : Nat} {s : PS} {S : List Nat} (h : PoolAt w b mt mu s) (k : Keeps S w w') (hb : b ∉ S) (ht : mt ∉ S) (hu : mu ∉ S) : PoolAt w' b mt mu s :=
  ⟨(k.block b (Array.getElem?_eq_some_iff.1 h.head).1 hb).trans h.head, h.tk.of_heap (k.block mt h.tk.lt ht), h.un.of_heap (k.block mu h.un.lt hu), h.ne⟩
theorem PoolAt.blt {w : World} {b mt mu : Nat} {s : PS} (h : PoolAt w b mt mu s) : b < w.heap.size := (Array.getElem?_eq_some_iff.1 h.head).1
theorem PoolAt.hm {w : World} {b mt mu : Nat} {s : PS} (h : PoolAt w b mt mu s) {b2 mt2 mu2 : Nat} {s2 : PS} (h2 : PoolAt w b2 mt2 mu2 s2) : b ≠ mt2 ∧ b ≠ mu2 := by
  constructor
  · intro e; subst e
    obtain ⟨es, c, h1, _⟩ := h2.tk
    rw [h.head] at h1; cases h1
  · intro e; subst e
    obtain ⟨es, c, h1, _⟩ := h2.un
    rw [h.head] at h1; cases h1

theorem run_neq_ptr {P : Program} {w : World} {t : TypeId} {x y : Option Addr} {r : Bool} (h : (Op.equal t (.pointer x) (.pointer y)).run P w = .ok r w) : (binOp .neq t (.pointer x) (.pointer y)).run P w = .ok (.bool (!r)) w := by
  simp only [binOp]
  simp [h]
theorem Try.info49 : (Try.prog.info? 49).map (fun i => i.size) = some 6 := by kernel_rfl
theorem ptr_equal_same (w : World) (a : Addr) : (Op.equal 27 (.pointer (some a)) (.pointer (some a))).run Try.prog w = .ok true w := by
  obtain ⟨j, hj, _⟩ := Option.map_eq_some_iff.1 Try.info49
  have h : ∀ d : Nat, (Op.equalIn (d + 1) 27 (.pointer (some a)) (.pointer (some a))).run Try.prog w = .ok true w := fun d => by
    simp [Op.equalIn, run_underlying Try.underlying27, sizeOf, typeInfo, hj, run_sameAddr_same]
  exact h 9999
theorem ptr_equal_other (w : World) {a b : Addr} {ca cb : Array Value} {ta tb : TypeId} (hne : a ≠ b) (ha : w.heap[a.block]? = some (.cells ca ta (0, 0))) (hb : w.heap[b.block]? = some (.cells cb tb (0, 0))) :
    (Op.equal 27 (.pointer (some a)) (.pointer (some b))).run Try.prog w = .ok false w := by
  obtain ⟨j, hj, hs⟩ := Option.map_eq_some_iff.1 Try.info49
  have h : ∀ d : Nat, (Op.equalIn (d + 1) 27 (.pointer (some a)) (.pointer (some b))).run Try.prog w = .ok false w := fun d => by
    simp [Op.equalIn, run_underlying Try.underlying27, sizeOf, typeInfo, hj, hs, run_sameAddr_other w hne ha hb]
  exact h 9999
theorem eql_same (b : Nat) (w : World) : (binOp .eql 27 (.pointer (some ⟨b, 0, none⟩)) (.pointer (some ⟨b, 0, none⟩))).run Try.prog w = .ok (.bool true) w := by
  simp only [binOp]; simp [ptr_equal_same w ⟨b, 0, none⟩]
theorem neq_same (b : Nat) (w : World) : (binOp .neq 27 (.pointer (some ⟨b, 0, none⟩)) (.pointer (some ⟨b, 0, none⟩))).run Try.prog w = .ok (.bool false) w :=
  run_neq_ptr (ptr_equal_same w ⟨b, 0, none⟩)
theorem eql_other {w : World} {b mt mu b2 mt2 mu2 : Nat} {s s2 : PS} (hne : b2 ≠ b) (h : PoolAt w b mt mu s) (h2 : PoolAt w b2 mt2 mu2 s2) :
    (binOp .eql 27 (.pointer (some ⟨b2, 0, none⟩)) (.pointer (some ⟨b, 0, none⟩))).run Try.prog w = .ok (.bool false) w := by
  simp only [binOp]; simp [ptr_equal_other w (a := ⟨b2, 0, none⟩) (b := ⟨b, 0, none⟩) (fun e => hne (congrArg Addr.block e)) h2.head h.head]
theorem neq_other {w : World} {b mt mu b2 mt2 mu2 : Nat} {s s2 : PS} (hne : b2 ≠ b) (h : PoolAt w b mt mu s) (h2 : PoolAt w b2 mt2 mu2 s2) :
    (binOp .neq 27 (.pointer (some ⟨b2, 0, none⟩)) (.pointer (some ⟨b, 0, none⟩))).run Try.prog w = .ok (.bool true) w :=
  run_neq_ptr (ptr_equal_other w (a := ⟨b2, 0, none⟩) (b := ⟨b, 0, none⟩) (fun e => hne (congrArg Addr.block e)) h2.head h.head)

/-- Two pools of one state that share nothing. -/
def Two (N : Nat) (wx : World) (b mt mu b2 mt2 mu2 : Nat) (s : PS) : Prop := PoolAt wx b mt mu s ∧ PoolAt wx b2 mt2 mu2 s ∧ b ≠ b2 ∧ mt ≠ mt2 ∧ mt ≠ mu2 ∧ mu ≠ mt2 ∧ mu ≠ mu2 ∧ N ≤ b2 ∧ N ≤ mt2 ∧ N ≤ mu2
/-- The second one is the first itself, or lives apart. -/
def Both (N : Nat) (wx : World) (b mt mu : Nat) (s : PS) (q : Value) : Prop :=
  (q = .pointer (some ⟨b, 0, none⟩) ∧ PoolAt wx b mt mu s) ∨ ∃ b2 mt2 mu2, q = .pointer (some ⟨b2, 0, none⟩) ∧ Two N wx b mt mu b2 mt2 mu2 s
theorem Both.pool {N : Nat} {wx : World} {b mt mu : Nat} {s : PS} {q : Value} (h : Both N wx b mt mu s q) : PoolAt wx b mt mu s := by
  rcases h with ⟨_, h⟩ | ⟨_, _, _, _, h, _⟩ <;> exact h
/-- Behind a copy that lies in new blocks. -/
theorem Both.copied {N : Nat} {wx w' : World} (hN : N ≤ wx.heap.size) {b mt mu b2 mt2 mu2 : Nat} {s : PS} (h : PoolAt wx b mt mu s) (h2 : PoolAt w' b2 mt2 mu2 s) (k : Keeps [] wx w') (e1 : wx.heap.size ≤ b2) (e2 : wx.heap.size ≤ mt2) (e3 : wx.heap.size ≤ mu2) : Two N w' b mt mu b2 mt2 mu2 s := by
  have := h.blt; have := h.tk.lt; have := h.un.lt
  exact ⟨h.keep k (by simp) (by simp) (by simp), h2, by omega, by omega, by omega, by omega, by omega, by omega, by omega, by omega⟩
theorem Both.keep {N : Nat} {w w' : World} {b mt mu : Nat} {s : PS} {q : Value} {S : List Nat} (h : Both N w b mt mu s q) (k : Keeps S w w') (hS : ∀ x ∈ S, w.heap.size ≤ x) : Both N w' b mt mu s q := by
  have g : ∀ {b mt mu}, PoolAt w b mt mu s → PoolAt w' b mt mu s := fun p => p.keep k (fun hx => by have := hS _ hx; have := p.blt; omega) (fun hx => by have := hS _ hx; have := p.tk.lt; omega) (fun hx => by have := hS _ hx; have := p.un.lt; omega)
  rcases h with ⟨e, p⟩ | ⟨b2, mt2, mu2, e, p, p2, r⟩
  · exact Or.inl ⟨e, g p⟩
  · exact Or.inr ⟨b2, mt2, mu2, e, g p, g p2, r⟩
/-- Each of the two takes a step of its own to one state. -/
theorem Two.step {N : Nat} {w w1 w2 : World} {b mt mu b2 mt2 mu2 : Nat} {s s' : PS} (h : Two N w b mt mu b2 mt2 mu2 s) (h1 : PoolAt w1 b mt mu s') (h2 : PoolAt w2 b2 mt2 mu2 s') (k2 : Keeps [b2, mt2, mu2] w1 w2) : Two N w2 b mt mu b2 mt2 mu2 s' := by
  obtain ⟨p, p2, r1, r2, r3, r4, r5, r6⟩ := h
  have q1 := p.hm p2
  have q2 := p2.hm p
  exact ⟨h1.keep k2 (by simp; exact ⟨r1, q1⟩) (by simp; exact ⟨q2.1.symm, r2, r3⟩) (by simp; exact ⟨q2.2.symm, r4, r5⟩), h2, r1, r2, r3, r4, r5, r6⟩
theorem PoolAt.far {w : World} {b mt mu : Nat} {s : PS} (h : PoolAt w b mt mu s) {A : Nat} {x y z : Value} {t : TypeId} (hA : w.heap[A]? = some (.cells #[x, y, z] t (0, 0))) : A ≠ b ∧ A ≠ mt ∧ A ≠ mu := by
  refine ⟨?_, ?_, ?_⟩
  · rintro rfl
    rw [h.head] at hA
    simp at hA
  · rintro rfl
    obtain ⟨es, c, h1, _⟩ := h.tk
    rw [hA] at h1; cases h1
  · rintro rfl
    obtain ⟨es, c, h1, _⟩ := h.un
    rw [hA] at h1; cases h1
theorem Two.other {N : Nat} {w w1 : World} {b mt mu b2 mt2 mu2 : Nat} {s : PS} (h : Two N w b mt mu b2 mt2 mu2 s) (k : Keeps [b, mt, mu] w w1) : PoolAt w1 b2 mt2 mu2 s := by
  obtain ⟨p, p2, r1, r2, r3, r4, r5, r6⟩ := h
  have q1 := p.hm p2
  have q2 := p2.hm p
  exact p2.keep k (by simp; exact ⟨r1.symm, q2⟩) (by simp; exact ⟨q1.1.symm, r2.symm, r4.symm⟩) (by simp; exact ⟨q1.2.symm, r3.symm, r5.symm⟩)

theorem count_q {w : World} {b mt mu : Nat} {s : PS} (h : PoolAt w b mt mu s) (n : Nat) : Calls Try.prog 12 #[.pointer (some ⟨b, 0, none⟩)] (w.drewN n) fun e w'' => e = .returned (.int .i64 s.taken.length) ∧ ∃ m, w'' = w.drewN m :=
  (count_any (h.drewN n)).mono fun _ _ ⟨he, hw⟩ => ⟨he, n, hw.symm⟩
theorem taken_q {w : World} {b mt mu : Nat} {s : PS} (h : PoolAt w b mt mu s) (p : Int) (n : Nat) : Calls Try.prog 14 #[.pointer (some ⟨b, 0, none⟩), .int .u16 p] (w.drewN n) fun e w'' => e = .returned (.bool (s.tkn p)) ∧ ∃ m, w'' = w.drewN m :=
  (taken_any (h.drewN n) p).mono fun _ _ ⟨he, hw⟩ => ⟨he, n, hw.symm⟩

set_option maxRecDepth 100000 in
set_option maxHeartbeats 4000000 in
theorem apart_walk (w : World) (low high rest at' : Int) (h0 : 0 ≤ low) (h1 : low ≤ 65535) (h2 : 0 ≤ high) (h3 : high ≤ 65535) (hr : 0 ≤ rest) (n0 : 0 ≤ at') (n1 : at' ≤ 255) (a0 : Option Addr) (len cap : Nat) (hlen : len ≤ maxLen) (hacts : ActsAt w a0 len) :
    Calls Try.prog 5 #[.agg #[.int .u16 low, .int .u16 high, .int .u64 rest], .slice a0 len cap, .int .u8 at'] w fun e w' => e = .returned (.bool true) ∧ Keeps [] w w' := by
  obtain ⟨f0, f1, f2, f3, f4, f5⟩ := fitHigh_bd h0 h1 h2 h3
  unfold maxLen at hlen
  go_enter Try.func5, Try.ntmps5
  go_wp2_with fail
  refine calls_gen' (fun W1 hW1 => ?_)
  have hx1 : W1.heap[w.heap.size]? = some (.cells #[.int .u16 low, .int .u16 high, .int .u64 rest] 25 (0, 0)) := by rw [hW1]; exact (MapKept.heap_alloc w _).1
  have hz1 : W1.heap.size = w.heap.size + 1 := by rw [hW1]; simp
  have kw1 : Keeps [] w W1 := by rw [hW1]; exact Keeps.alloc _ _ _
  clear hW1
  refine (fit_any _ low high rest h0 h1 h2 h3).mono ?_
  rintro e w2 ⟨rfl, k2⟩
  have hx2 := (k2.block _ (by omega) (by simp)).trans hx1
  have c0 := cell_of_block hx2 0
  have c1 := cell_of_block hx2 1
  have c2 := cell_of_block hx2 2
  have z0 := free_of_block hx2 0
  have z1 := free_of_block hx2 1
  have z2 := free_of_block hx2 2
  simp at c0 c1 c2
  have kw2 := kw1.trans k2
  have hz2 := k2.size
  have HX2 := Lib.hid hx2
  clear hx1 k2 kw1 hx2
  go_wp2_with fail
  refine calls_gen' (fun W3 hW3 => ?_)
  have hx3 : W3.heap[w.heap.size]? = some (.cells #[.int .u16 low, .int .u16 (fitHigh low high), .int .u64 rest] 25 (0, 0)) := by
    rw [hW3]; exact heap_setCell_self (heap_setCell_self (heap_setCell_self HX2.out 0 _) 1 _) 2 _
  have kw3 : Keeps [] w W3 := by rw [hW3]; exact ((kw2.setCell' (by simp) _).setCell' (by simp) _).setCell' (by simp) _
  have hz3 : w.heap.size < W3.heap.size := (Array.getElem?_eq_some_iff.1 hx3).1
  clear hW3 HX2 kw2 hz2 z0 z1 z2 c0 c1 c2
  generalize hfh : fitHigh low high = fh at *
  clear hfh
  by_cases hbad : newBad low fh rest = true
  · refine (new_bad _ low fh rest hbad).mono ?_
    rintro e w4 ⟨rfl, rfl⟩
    have HX3 := Lib.hid hx3
    clear hx3
    go_wp2_with fail
    refine (awake_any _).mono ?_
    rintro e w5 ⟨rfl, k5⟩
    have hx5 := (k5.block _ hz3 (by simp)).trans HX3.out
    have c0 := cell_of_block hx5 0
    have c1 := cell_of_block hx5 1
    have c2 := cell_of_block hx5 2
    simp at c0 c1 c2
    clear hx5
    unfold newBad maxTime at hbad
    have kf := kw3.trans k5
    by_cases g1 : low = 0
    · subst g1
      clear hbad
      go_wp2_with fail
      go_ret
      exact ⟨rfl, kf⟩
    · have e1 : (low == 0) = false := by simpa using g1
      by_cases g2 : fh < low
      · clear hbad g1
        go_wp2_with fail
        go_ret
        exact ⟨rfl, kf⟩
      · have g3 : 1099511627776 < rest := by simp [g1, g2] at hbad; exact hbad
        clear hbad g1
        go_wp2_with fail
        go_ret
        exact ⟨rfl, kf⟩
  · simp only [Bool.not_eq_true] at hbad
    have hok := newBad_ok hbad h0 f1 hr
    refine (new_ok _ low fh rest hbad).mono ?_
    rintro e w4 ⟨b, mt, mu, rfl, p4, k4, e4, e5, e6⟩
    have hx4 := (k4.block _ hz3 (by simp)).trans hx3
    have kw4 := kw3.trans k4
    have hz4 := k4.size
    clear hx3 k4 kw3 hbad f4 f5 hx4
    generalize PS.new low fh rest = s0 at *
    by_cases hl0 : len = 0
    · subst hl0
      clear hacts
      go_wp2_with fail
      go_loopg [53] 0 (fun g c wr => g = 0 ∧ c = .int .i64 0 ∧ Keeps [] w wr)
      case atStart => exact ⟨rfl, rfl, kw4⟩
      case round =>
        obtain ⟨rfl, rfl, kwr⟩ := hrel
        go_wp2_with fail
        refine (awake_any _).mono ?_
        rintro e w5 ⟨rfl, k5⟩
        go_wp2_with fail
        go_ret
        exact ⟨rfl, kwr.trans k5⟩
    · obtain ⟨blk, off, rfl, hblk, hact⟩ := hacts.resolve_left hl0
      have HA := Lib.hid hact
      clear hact hacts
      go_wp2_with fail
      go_loopg [9, 53] len (fun g q c wr => ∃ (k : Nat) (s : PS), k ≤ len ∧ k ≤ 60 ∧ g = len - k ∧ c = .int .i64 k ∧ s.ok ∧ Both w.heap.size wr b mt mu s q ∧ Keeps [] w wr)
      case atStart => exact ⟨0, s0, Nat.zero_le _, by omega, rfl, rfl, hok, Or.inl ⟨rfl, p4⟩, kw4⟩
      case round =>
        obtain ⟨k, s, hk, hk60, rfl, rfl, hsok, hboth, kwr⟩ := hrel
        have HB := Lib.hid hboth
        clear hboth p4 hok
        by_cases hlt : k < len
        · obtain ⟨what, port, now, b0, b1, d0, d1, g0, g1, g2⟩ := HA.out k hlt
          have hcr : ∀ j, wr.cell? ⟨blk, j, none⟩ = w.cell? ⟨blk, j, none⟩ := fun j => World.cell?_of_block (w := w) (kwr.block blk hblk (by simp))
          rw [← hcr] at g0 g1 g2
          clear hcr
          have hkz : (k : Int) < (len : Int) := by omega
          by_cases h60 : k = 60
          · subst h60
            go_wp2_with fail
            refine (awake_any _).mono ?_
            rintro e w5 ⟨rfl, k5⟩
            go_wp2_with fail
            go_ret
            exact ⟨rfl, (kwr.alloc' _).trans k5⟩
          · have hk6 : (k : Int) < 60 := by omega
            go_upto_if 64 with fail
            have hA5 := (MapKept.heap_alloc wr (.cells #[.int .i64 what, .int .u16 port, .int .u64 now] 41)).1
            have kw5 := kwr.alloc' (.cells #[.int .i64 what, .int .u16 port, .int .u64 now] 41)
            have HB5 := Lib.hid (HB.out.keep (Keeps.alloc [] wr (.cells #[.int .i64 what, .int .u16 port, .int .u64 now] 41)) (by simp))
            have hz5 : wr.heap.size < (wr.alloc (.cells #[.int .i64 what, .int .u16 port, .int .u64 now] 41)).heap.size := by simp
            have hbl : ∀ {b mt mu : Nat}, PoolAt wr b mt mu s → b < wr.heap.size ∧ mt < wr.heap.size ∧ mu < wr.heap.size := fun h => ⟨h.blt, h.tk.lt, h.un.lt⟩
            have hfar := kwr.size
            clear g0 g1 g2
            generalize wr.alloc (.cells #[.int .i64 what, .int .u16 port, .int .u64 now] 41) = w5 at *
            generalize wr.heap.size = A at *
            have HA5 := Lib.hid hA5
            have d1 := cell_of_block hA5 1
            have d2 := cell_of_block hA5 2
            simp at d1 d2
            clear hA5
            go_cut [9] (fun q wx => Both w.heap.size wx b mt mu s q ∧ Keeps [] w wx ∧ wx.heap[A]? = some (.cells #[.int .i64 what, .int .u16 port, .int .u64 now] 41 (0, 0)))
            case first =>
              by_cases hat : at' % 60 ≤ (k : Int)
              · rcases HB5.out with ⟨rfl, p5⟩ | ⟨b2, mt2, mu2, rfl, tw⟩
                · have hq := eql_same b
                  go_wp2_with fail
                  refine (copy_any p5).mono ?_
                  rintro e w6 ⟨b2, mt2, mu2, rfl, p6, k6, e1, e2, e3⟩
                  have tw := Both.copied (N := w.heap.size) kw5.size p5 p6 k6 e1 e2 e3
                  have kw6 := kw5.trans k6
                  have hA6 := (k6.block A hz5 (by simp)).trans HA5.out
                  have hz6 := k6.size
                  clear d1 d2 p6 k6
                  go_wp2_with fail
                  refine (copy_any tw.1).mono ?_
                  rintro e w7 ⟨b3, mt3, mu3, rfl, p7, k7, o1, o2, o3⟩
                  have hA7 := (k7.block A (by omega) (by simp)).trans hA6
                  have d1 := cell_of_block hA7 1
                  have d2 := cell_of_block hA7 2
                  simp at d1 d2
                  have hz7 := k7.size
                  clear hA6
                  have HA7 := Lib.hid hA7
                  clear hA7
                  go_wp2_with fail
                  refine (take_any p7 hsok now).mono ?_
                  rintro e w8 ⟨rfl, p8, k8⟩
                  have hA8 := (k8.block A (by omega) (by simp; omega)).trans HA7.out
                  clear d1 d2
                  have d1 := cell_of_block hA8 1
                  have d2 := cell_of_block hA8 2
                  simp at d1 d2
                  have HA8 := Lib.hid hA8
                  clear hA8
                  go_wp2_with fail
                  refine (give_any p8 (PS.take_ok hsok now) port now).mono ?_
                  rintro e w9 ⟨rfl, p9, k9⟩
                  have k10 := (k7.mono (T := [b3, mt3, mu3]) (by simp)).trans (k8.trans k9)
                  have hA9 := (k9.block A (by have := k8.size; omega) (by simp; omega)).trans HA8.out
                  go_wp2_with fail
                  go_meet
                  refine ⟨Both.keep (Or.inr ⟨b2, mt2, mu2, rfl, tw⟩) k10 (by simp; omega), ?_, hA9⟩
                  exact ((kw6.mono (T := [b3, mt3, mu3]) (by simp)).trans k10).fresh (by intro x hx hlt; simp at hx; omega)
                · obtain ⟨v1, v2, u1, u2, u3, u4, u5, u6⟩ := tw
                  have hne : ¬ b2 = b := fun e => u1 e.symm
                  have tw : Two w.heap.size w5 b mt mu b2 mt2 mu2 s := ⟨v1, v2, u1, u2, u3, u4, u5, u6⟩
                  have hq := eql_other hne v1 v2
                  go_wp2_with fail
                  refine (copy_any v1).mono ?_
                  rintro e w7 ⟨b3, mt3, mu3, rfl, p7, k7, o1, o2, o3⟩
                  have hA7 := (k7.block A (by omega) (by simp)).trans HA5.out
                  clear d1 d2
                  have d1 := cell_of_block hA7 1
                  have d2 := cell_of_block hA7 2
                  simp at d1 d2
                  have hz7 := k7.size
                  have HA7 := Lib.hid hA7
                  clear hA7
                  go_wp2_with fail
                  refine (take_any p7 hsok now).mono ?_
                  rintro e w8 ⟨rfl, p8, k8⟩
                  have hA8 := (k8.block A (by omega) (by simp; omega)).trans HA7.out
                  clear d1 d2
                  have d1 := cell_of_block hA8 1
                  have d2 := cell_of_block hA8 2
                  simp at d1 d2
                  have HA8 := Lib.hid hA8
                  clear hA8
                  go_wp2_with fail
                  refine (give_any p8 (PS.take_ok hsok now) port now).mono ?_
                  rintro e w9 ⟨rfl, p9, k9⟩
                  have k10 := (k7.mono (T := [b3, mt3, mu3]) (by simp)).trans (k8.trans k9)
                  have hA9 := (k9.block A (by have := k8.size; omega) (by simp; omega)).trans HA8.out
                  go_wp2_with fail
                  go_meet
                  refine ⟨Both.keep (Or.inr ⟨b2, mt2, mu2, rfl, tw⟩) k10 (by simp; omega), ?_, hA9⟩
                  exact ((kw5.mono (T := [b3, mt3, mu3]) (by simp)).trans k10).fresh (by intro x hx hlt; simp at hx; omega)
              · go_wp2_with fail
                go_meet
                exact ⟨HB5.out, kw5, HA5.out⟩
            case rest =>
              obtain ⟨hb, kwc, hAc⟩ := hcut
              have HBc := Lib.hid hb
              have d0 := cell_of_block hAc 0
              have d1 := cell_of_block hAc 1
              have d2 := cell_of_block hAc 2
              simp at d0 d1 d2
              have hzc := kwc.size
              have HAc := Lib.hid hAc
              have hAlt := (Array.getElem?_eq_some_iff.1 hAc).1
              clear hb hAc hz5
              go_upto_if 84 with fail
              go_cut [9] (fun q wx => ∃ s' : PS, s'.ok ∧ Both w.heap.size wx b mt mu s' q ∧ Keeps [] w wx ∧ wx.heap[A]? = some (.cells #[.int .i64 what, .int .u16 port, .int .u64 now] 41 (0, 0)))
              case first =>
                by_cases hw : what = 1
                · subst hw
                  rcases HBc.out with ⟨rfl, p5⟩ | ⟨b2, mt2, mu2, rfl, tw⟩
                  · have f5 := p5.far HAc.out
                    have hq := neq_same b
                    go_wp2_with fail
                    refine (give_any p5 hsok port now).mono ?_
                    rintro e w6 ⟨rfl, p6, k6⟩
                    have hA6 := (k6.block A hAlt (by simp; exact f5)).trans HAc.out
                    go_wp2_with fail
                    go_meet
                    exact ⟨_, PS.give_ok hsok port now, Or.inl ⟨rfl, p6⟩, ((kwc.mono (T := [b, mt, mu]) (by simp)).trans k6).fresh (by intro x hx hlt; simp at hx; omega), hA6⟩
                  · have p5 := tw.1
                    have f5 := p5.far HAc.out
                    have hne : ¬ b2 = b := fun e => tw.2.2.1 e.symm
                    go_wp2_with fail
                    refine (give_any p5 hsok port now).mono ?_
                    rintro e w6 ⟨rfl, p6, k6⟩
                    have hA6 := (k6.block A hAlt (by simp; exact f5)).trans HAc.out
                    have p2 := tw.other k6
                    have f6 := p2.far hA6
                    have hq := neq_other hne p6 p2
                    clear d0 d1 d2
                    have d1 := cell_of_block hA6 1
                    have d2 := cell_of_block hA6 2
                    simp at d1 d2
                    have HA6 := Lib.hid hA6
                    clear hA6
                    have hA6lt := Nat.lt_of_lt_of_le hAlt k6.size
                    go_wp2_with fail
                    refine (give_any p2 hsok port now).mono ?_
                    rintro e w7 ⟨rfl, p7, k7⟩
                    have hA7 := (k7.block A hA6lt (by simp; exact f6)).trans HA6.out
                    have tw2 := tw.step p6 p7 k7
                    have hN := tw.2.2.2.2.2.2.2
                    have ka : Keeps [b, mt, mu, b2, mt2, mu2] wc w7 := (k6.mono (by intro x hx; simp at hx ⊢; omega)).trans (k7.mono (by intro x hx; simp at hx ⊢; omega))
                    go_wp2_with fail
                    go_meet
                    exact ⟨_, PS.give_ok hsok port now, Or.inr ⟨b2, mt2, mu2, rfl, tw2⟩, ((kwc.mono (T := [b, mt, mu, b2, mt2, mu2]) (by simp)).trans ka).fresh (by intro x hx hlt; simp at hx; omega), hA7⟩
                · have hwe : (what == 1) = false := by simpa using hw
                  rcases HBc.out with ⟨rfl, p5⟩ | ⟨b2, mt2, mu2, rfl, tw⟩
                  · have f5 := p5.far HAc.out
                    have hq := neq_same b
                    go_wp2_with fail
                    refine (take_any p5 hsok now).mono ?_
                    rintro e w6 ⟨rfl, p6, k6⟩
                    have hA6 := (k6.block A hAlt (by simp; exact f5)).trans HAc.out
                    go_wp2_with fail
                    go_meet
                    exact ⟨_, PS.take_ok hsok now, Or.inl ⟨rfl, p6⟩, ((kwc.mono (T := [b, mt, mu]) (by simp)).trans k6).fresh (by intro x hx hlt; simp at hx; omega), hA6⟩
                  · have p5 := tw.1
                    have f5 := p5.far HAc.out
                    have hne : ¬ b2 = b := fun e => tw.2.2.1 e.symm
                    go_wp2_with fail
                    refine (take_any p5 hsok now).mono ?_
                    rintro e w6 ⟨rfl, p6, k6⟩
                    have hA6 := (k6.block A hAlt (by simp; exact f5)).trans HAc.out
                    have p2 := tw.other k6
                    have f6 := p2.far hA6
                    have hq := neq_other hne p6 p2
                    clear d0 d1 d2
                    have d1 := cell_of_block hA6 1
                    have d2 := cell_of_block hA6 2
                    simp at d1 d2
                    have HA6 := Lib.hid hA6
                    clear hA6
                    have hA6lt := Nat.lt_of_lt_of_le hAlt k6.size
                    go_wp2_with fail
                    refine (take_any p2 hsok now).mono ?_
                    rintro e w7 ⟨rfl, p7, k7⟩
                    have hA7 := (k7.block A hA6lt (by simp; exact f6)).trans HA6.out
                    have tw2 := tw.step p6 p7 k7
                    have hN := tw.2.2.2.2.2.2.2
                    have ka : Keeps [b, mt, mu, b2, mt2, mu2] wc w7 := (k6.mono (by intro x hx; simp at hx ⊢; omega)).trans (k7.mono (by intro x hx; simp at hx ⊢; omega))
                    go_wp2_with fail
                    go_meet
                    exact ⟨_, PS.take_ok hsok now, Or.inr ⟨b2, mt2, mu2, rfl, tw2⟩, ((kwc.mono (T := [b, mt, mu, b2, mt2, mu2]) (by simp)).trans ka).fresh (by intro x hx hlt; simp at hx; omega), hA7⟩
              case rest =>
                obtain ⟨s', ok', hb', kwd, hAd⟩ := hcut
                have HBd := Lib.hid hb'
                clear d0 d1 d2
                have d1 := cell_of_block hAd 1
                simp at d1
                clear hb' hAd HAc hAlt HBc HB5 HB kwc kw5 kwr hbl
                rcases HBd.out with ⟨rfl, p5⟩ | ⟨b2, mt2, mu2, rfl, tw⟩
                · go_wp2_with fail
                  go_quiet (first | (go_at_call 12; exact count_q p5 _) | (go_at_call 14; exact taken_q p5 _ _))
                  go_wp2_with fail
                  go_roundg (len - (k + 1))
                  case measure => omega
                  case rel => exact ⟨k + 1, s', by omega, by omega, rfl, by go_num, ok', Both.keep HBd.out (Keeps.drewN [] _ _) (by simp), kwd.drewN' _⟩
                · have p5 := tw.1
                  have p6 := tw.2.1
                  go_wp2_with fail
                  go_quiet (first | (go_at_call_of 12 (Value.pointer (some ⟨b, 0, none⟩)); exact count_q p5 _) | (go_at_call_of 14 (Value.pointer (some ⟨b, 0, none⟩)); exact taken_q p5 _ _) | (go_at_call 12; exact count_q p6 _) | (go_at_call 14; exact taken_q p6 _ _))
                  go_wp2_with fail
                  go_roundg (len - (k + 1))
                  case measure => omega
                  case rel => exact ⟨k + 1, s', by omega, by omega, rfl, by go_num, ok', Both.keep HBd.out (Keeps.drewN [] _ _) (by simp), kwd.drewN' _⟩
        · have hkz : (len : Int) ≤ (k : Int) := by omega
          go_wp2_with fail
          refine (awake_any _).mono ?_
          rintro e w5 ⟨rfl, k5⟩
          go_wp2_with fail
          go_ret
          exact ⟨rfl, kwr.trans k5⟩

theorem poolApart_typed {H : Type} (enc : TypeId × Value → H) (W : World) (base : Nat) {v0 v1 v2 : Value} {d0 d1 d2 : DataW H} {p0 p1 p2 : List MemPlace}
    (o0 : Value.okWide Try.prog W .any base 25 v0) (o1 : Value.okWide Try.prog W .any base 37 v1) (o2 : Value.okWide Try.prog W .any base 5 v2)
    (h0 : DataW.Trod enc Try.prog W 0 (fun _ => true) true 25 v0 d0 p0) (h1 : DataW.Trod enc Try.prog W 0 (fun _ => true) true 37 v1 d1 p1) (h2 : DataW.Trod enc Try.prog W 0 (fun _ => true) true 5 v2 d2 p2) :
    Calls Try.prog 5 #[v0, v1, v2] W fun e W' => e = .returned (.bool true) ∧ Below W.heap.size W W' := by
  obtain ⟨low, high, rest, rfl, a0, a1, b0, b1, c0, _⟩ := open_ends o0 h0
  obtain ⟨q, len, cap, rfl, hl, hact⟩ := open_acts o1 h1
  obtain ⟨m, rfl, m0, m1⟩ := open_u8 o2 h2
  exact (apart_walk W low high rest m a0 a1 b0 b1 c0 m0 m1 q len cap hl hact).mono fun e W' ⟨he, k⟩ => ⟨he, k.below (Nat.le_refl _) (by simp)⟩
end Go.Proofs.Ytihjdlmmjdjggaa
