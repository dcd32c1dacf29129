/-
  The walk of the law PoolLeast. No condition.
-/
import Derived.Test.YtihjdlmmjdjggaaPoolL
import Derived.Test.YtihjdlmmjdjggaaPoolP
import Derived.Test.YtihjdlmmjdjggaaPoolO
import Derived.Lib.SmallJoins
namespace Go.Proofs.Ytihjdlmmjdjggaa
open Go.RowKit

theorem calls_gen {P : Program} {f : FuncId} {args : Array Value} {w : World} {R : Ending → World → Prop} (h : ∀ W, W = w → Calls P f args W R) : Calls P f args w R := h w rfl

set_option maxHeartbeats 2000000 in
theorem least_walk (w : World) (low high rest n which : Int) (h0 : 0 ≤ low) (h1 : low ≤ 65535) (h2 : 0 ≤ high) (h3 : high ≤ 65535) (n0 : 0 ≤ n) (n1 : n ≤ 255) (m0 : 0 ≤ which) (m1 : which ≤ 255) :
    Calls Try.prog 3 #[.agg #[.int .u16 low, .int .u16 high, .int .u64 rest], .int .u8 n, .int .u8 which] w fun e w' => e = .returned (.bool true) ∧ Keeps [] w w' := by
  obtain ⟨f0, f1, f2, f3, f4, f5⟩ := fitHigh_bd h0 h1 h2 h3
  go_enter Try.func3, Try.ntmps3
  go_wp2_with fail
  refine calls_gen (fun W1 hW1 => ?_)
  have hx1 : W1.heap[w.heap.size]? = some (.cells #[.int .u16 low, .int .u16 high, .int .u64 rest] 25 (0, 0)) := by rw [hW1]; exact (MapKept.heap_alloc w _).1
  have hz1 : W1.heap.size = w.heap.size + 1 := by rw [hW1]; simp
  have kw1 : Keeps [] w W1 := by rw [hW1]; exact Keeps.alloc _ _ _
  clear hW1
  refine (fit_any _ low high rest h0 h1 h2 h3).mono ?_
  rintro e w2 ⟨rfl, k2⟩
  have hx2 := (k2.block _ (by omega) (by simp)).trans hx1
  have c0 := cell_of_block hx2 0
  have c1 := cell_of_block hx2 1
  have c2 := cell_of_block hx2 2
  have z0 := free_of_block hx2 0
  have z1 := free_of_block hx2 1
  have z2 := free_of_block hx2 2
  simp at c0 c1 c2
  have kw2 := kw1.trans k2
  have hz2 := k2.size
  have HX2 := Lib.hid hx2
  clear hx1 k2 kw1 hx2
  go_wp2_with fail
  refine calls_gen (fun W3 hW3 => ?_)
  have hx3 : W3.heap[w.heap.size]? = some (.cells #[.int .u16 low, .int .u16 (fitHigh low high), .int .u64 0] 25 (0, 0)) := by
    rw [hW3]; exact heap_setCell_self (heap_setCell_self (heap_setCell_self (heap_setCell_self HX2.out 0 _) 1 _) 2 _) 2 _
  have kw3 : Keeps [] w W3 := by rw [hW3]; exact (((kw2.setCell' (by simp) _).setCell' (by simp) _).setCell' (by simp) _).setCell' (by simp) _
  have hz3 : w.heap.size < W3.heap.size := (Array.getElem?_eq_some_iff.1 hx3).1
  clear hW3 HX2 kw2 hz2 z0 z1 z2 c0 c1 c2
  generalize hfh : fitHigh low high = fh at *
  clear hfh
  by_cases hbad : newBad low fh 0 = true
  · refine (new_bad _ low fh 0 hbad).mono ?_
    rintro e w4 ⟨rfl, rfl⟩
    go_wp2_with fail
    refine (awake_any _).mono ?_
    rintro e w5 ⟨rfl, k5⟩
    go_wp2_with fail
    go_ret
    exact ⟨rfl, kw3.trans k5⟩
  · simp only [Bool.not_eq_true] at hbad
    have hb2 := hbad
    unfold newBad at hb2
    simp only [Bool.or_eq_false_iff, decide_eq_false_iff_not] at hb2
    obtain ⟨⟨g1, g2⟩, g3⟩ := hb2
    have g4 : low ≤ fh := by omega
    have g5 : 1 ≤ low := by omega
    clear g1 g2 g3 f4 f5
    refine (new_ok _ low fh 0 hbad).mono ?_
    rintro e w4 ⟨b, mt, mu, rfl, p4, k4, e4, e5, e6⟩
    have hx4 := (k4.block _ hz3 (by simp)).trans hx3
    have kw4 := kw3.trans k4
    have c0 := cell_of_block hx4 0
    have c1 := cell_of_block hx4 1
    simp at c0 c1
    have HX4 := Lib.hid hx4
    have hz4 := k4.size
    clear hx3 k4 kw3 hx4 hbad
    have r0 : 0 ≤ n % (fh - low + 1) := Int.emod_nonneg _ (by omega)
    have r1 : n % (fh - low + 1) ≤ fh - low := by have := Int.emod_lt_of_pos n (show 0 < fh - low + 1 by omega); omega
    have q0 : 0 ≤ which % (1 + n % (fh - low + 1)) := Int.emod_nonneg _ (by omega)
    have q1 : which % (1 + n % (fh - low + 1)) ≤ n % (fh - low + 1) := by have := Int.emod_lt_of_pos which (show 0 < 1 + n % (fh - low + 1) by omega); omega
    obtain ⟨K, hK⟩ : ∃ K : Nat, (K : Int) = 1 + n % (fh - low + 1) := ⟨(1 + n % (fh - low + 1)).toNat, by omega⟩
    have HK := Lib.hid hK
    clear hK
    rw [← leastS_zero] at p4
    go_wp2_with fail
    go_loopw [45] (fun c wr => ∃ i : Nat, i ≤ K ∧ c = .int .i64 i ∧ PoolAt wr b mt mu (leastS low fh i) ∧ Keeps [b, mt, mu] w4 wr) (fun c _ => K - (intOf c).toNat)
    case atStart => exact ⟨0, Nat.zero_le _, rfl, p4, Keeps.refl _ _⟩
    case round =>
      obtain ⟨i, hi, rfl, p5, k5⟩ := hrel
      have hx5 := (k5.block w.heap.size (by omega) (by simp; omega)).trans HX4.out
      have d0 := cell_of_block hx5 0
      simp at d0
      have HX5 := Lib.hid hx5
      clear hx5 p4
      by_cases hlt : i < K
      · have hn : (i : Int) < 1 + n % (fh - low + 1) := by have := HK.out; omega
        have c := take_any p5 (by unfold PS.ok leastS; simp only []; refine ⟨g5, g4, f0, f1, by omega, by omega, ?_, ?_⟩ <;> split <;> omega) 3
        rw [leastS_take low fh i (by omega)] at c
        have hC := Lib.hid c
        clear c
        go_wp2_with fail
        refine hC.out.mono ?_
        rintro e w6 ⟨rfl, p6, k6⟩
        have k7 := k5.trans k6
        have hx6 := (k7.block w.heap.size (by omega) (by simp; omega)).trans HX4.out
        have d6 := cell_of_block hx6 0
        simp at d6
        clear hx6 p5 k5 k6 d0 hC
        go_wp2_with fail
        go_roundw
        case rel => exact ⟨i + 1, by omega, by go_num, p6, k7⟩
        case measure => simp [intOf]; omega
      · have hn : 1 + n % (fh - low + 1) ≤ (i : Int) := by have := HK.out; omega
        have hiK : i = K := by omega
        subst hiK
        clear hlt hi
        go_wp2_with fail
        go_quiet (fail)
        have hb0 : low ≤ low + which % (1 + n % (fh - low + 1)) := by omega
        have hb1 : low + which % (1 + n % (fh - low + 1)) < low + i := by have := HK.out; omega
        have hki : 0 < i := by have := HK.out; omega
        have hkh : (i : Int) ≤ fh - low + 1 := by have := HK.out; omega
        have ok5 : (leastS low fh i).ok := by unfold PS.ok leastS; simp only []; refine ⟨g5, g4, f0, f1, by omega, by omega, ?_, ?_⟩ <;> split <;> omega
        have okb : (backS low fh i (low + which % (1 + n % (fh - low + 1)))).ok := by unfold PS.ok backS; simp only []; omega
        have c1 := give_any (p5.drewN nq) ok5 (low + which % (1 + n % (fh - low + 1))) 1
        rw [leastS_give low fh i hki _ hb0 hb1] at c1
        have C1 := Lib.hid c1
        clear c1 p5 HX5 d0
        go_wp2_with fail
        refine C1.out.mono ?_
        rintro e w6 ⟨rfl, p6, k6⟩
        have c2 := give_any p6 okb (low + which % (1 + n % (fh - low + 1))) 1
        rw [backS_give] at c2
        have C2 := Lib.hid c2
        clear c2 C1
        go_wp2_with fail
        refine C2.out.mono ?_
        rintro e w7 ⟨rfl, p7, k7⟩
        have c3 := take_any p7 okb 0
        rw [backS_take low fh i _ hb0 hb1 hkh] at c3
        have C3 := Lib.hid c3
        clear c3 C2 p6
        go_wp2_with fail
        refine C3.out.mono ?_
        rintro e w8 ⟨rfl, p8, k8⟩
        clear C3 p7
        go_wp2_with fail
        refine (awake_any _).mono ?_
        rintro e w9 ⟨rfl, k9⟩
        have p9 : PoolAt w9 b mt mu (againS low fh i (low + which % (1 + n % (fh - low + 1)))) :=
          ⟨(k9.block b (Array.getElem?_eq_some_iff.1 p8.head).1 (by simp)).trans p8.head, p8.tk.of_heap (k9.block mt p8.tk.lt (by simp)), p8.un.of_heap (k9.block mu p8.un.lt (by simp)), p8.ne⟩
        have c4 := count_any p9
        rw [againS_count low fh i _ hb0 hb1] at c4
        have C4 := Lib.hid c4
        clear c4
        go_wp2_with fail
        refine C4.out.mono ?_
        rintro e w10 ⟨rfl, rfl⟩
        have he : ((i : Int) == 1 + n % (fh - low + 1)) = true := by have := HK.out; simp; omega
        go_wp2_with fail
        go_ret
        refine ⟨rfl, ?_⟩
        have ka : Keeps [b, mt, mu] w w9 := (kw4.mono (by simp)).trans ((((k5.trans (Keeps.drewN _ _ _)).trans k6).trans (k7.trans k8)).trans (k9.mono (by simp)))
        exact ka.fresh (by intro x hx hlt; simp at hx; omega)

theorem poolLeast_typed {H : Type} (enc : TypeId × Value → H) (W : World) (base : Nat) {v0 v1 v2 : Value} {d0 d1 d2 : DataW H} {p0 p1 p2 : List MemPlace}
    (o0 : Value.okWide Try.prog W .any base 25 v0) (o1 : Value.okWide Try.prog W .any base 5 v1) (o2 : Value.okWide Try.prog W .any base 5 v2)
    (h0 : DataW.Trod enc Try.prog W 0 (fun _ => true) true 25 v0 d0 p0) (h1 : DataW.Trod enc Try.prog W 0 (fun _ => true) true 5 v1 d1 p1) (h2 : DataW.Trod enc Try.prog W 0 (fun _ => true) true 5 v2 d2 p2) :
    Calls Try.prog 3 #[v0, v1, v2] W fun e W' => e = .returned (.bool true) ∧ Below W.heap.size W W' := by
  obtain ⟨low, high, rest, rfl, a0, a1, b0, b1, _, _⟩ := open_ends o0 h0
  obtain ⟨n, rfl, n0, n1⟩ := open_u8 o1 h1
  obtain ⟨m, rfl, m0, m1⟩ := open_u8 o2 h2
  exact (least_walk W low high rest n m a0 a1 b0 b1 n0 n1 m0 m1).mono fun e W' ⟨he, k⟩ => ⟨he, k.below (Nat.le_refl _) (by simp)⟩
end Go.Proofs.Ytihjdlmmjdjggaa
