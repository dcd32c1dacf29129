/-
  The walk of the law PoolOnce. No condition.
-/
import Derived.Test.YtihjdlmmjdjggaaPoolApart
import Derived.Test.YtihjdlmmjdjggaaPoolQ
import Derived.Maps.RangeWalk
namespace Go.Proofs.Ytihjdlmmjdjggaa
open Go.RowKit

theorem wp_gen {P : Program} {c : Code} {Q : Exit → Act → World → Prop} {a : Act} {w : World} (h : ∀ W, W = w → c.wp P Q a W) : c.wp P Q a w := h w rfl
def encI : Int → Value := fun t => .int .i64 t
theorem Try.zero3 (w : World) : (zeroValue 3).run Try.prog w = .ok (.int .i64 0) w := by kernel_rfl
theorem MapAt.lookI {w : World} {r : Nat} {l : List (Int × Int)} (h : MapAt w r .u16 encI l) (p : Int) :
    (Instr.lookup 38 (.map (some r)) (.int .u16 p) false).run Try.prog w = .ok (.int .i64 ((AL.find p l).getD 0)) w := by
  rw [h.look (P := Try.prog) Try.underlying38 Try.underlying22 Try.zero3 p w rfl false]
  cases AL.find p l <;> rfl
theorem MapAt.lookU {w : World} {r : Nat} {l : List (Int × Int)} (h : MapAt w r .u16 encU l) (p : Int) :
    (Instr.lookup 39 (.map (some r)) (.int .u16 p) false).run Try.prog w = .ok (.int .u64 ((AL.find p l).getD 0)) w := by
  rw [h.look (P := Try.prog) Try.underlying39 Try.underlying22 Try.zero23 p w rfl false]
  cases AL.find p l <;> rfl

/-- All that the round hands on. -/
structure Once (w wx : World) (X b mt mu mT mU : Nat) (low fh rest : Int) (s : PS) (T U : List (Int × Int)) (nw : Int) : Prop where
  ok : s.ok
  pool : PoolAt wx b mt mu s
  mT : MapAt wx mT .u16 encI T
  mU : MapAt wx mU .u16 encU U
  inv : PInv s T U nw
  elow : s.low = low
  ehigh : s.high = fh
  erest : s.rest = rest
  keep : Keeps [] w wx
  x : wx.heap[X]? = some (.cells #[.int .u16 low, .int .u16 fh, .int .u64 rest] 25 (0, 0))

theorem Once.keepS {w wx wy : World} {X b mt mu mT mU : Nat} {low fh rest : Int} {s : PS} {T U : List (Int × Int)} {nw : Int} {S : List Nat} (h : Once w wx X b mt mu mT mU low fh rest s T U nw) (k : Keeps S wx wy) (kw : Keeps [] w wy)
    (c1 : b ∉ S) (c2 : mt ∉ S) (c3 : mu ∉ S) (c4 : mT ∉ S) (c5 : mU ∉ S) (c6 : X ∉ S) : Once w wy X b mt mu mT mU low fh rest s T U nw :=
  ⟨h.ok, h.pool.keep k c1 c2 c3, h.mT.of_heap (k.block _ h.mT.lt c4), h.mU.of_heap (k.block _ h.mU.lt c5), h.inv, h.elow, h.ehigh, h.erest, kw, (k.block _ (Array.getElem?_eq_some_iff.1 h.x).1 c6).trans h.x⟩
theorem Once.keep0 {w wx wy : World} {X b mt mu mT mU : Nat} {low fh rest : Int} {s : PS} {T U : List (Int × Int)} {nw : Int} (h : Once w wx X b mt mu mT mU low fh rest s T U nw) (k : Keeps [] wx wy) : Once w wy X b mt mu mT mU low fh rest s T U nw :=
  h.keepS k (h.keep.trans k) (by simp) (by simp) (by simp) (by simp) (by simp) (by simp)
theorem Once.later {w wx : World} {X b mt mu mT mU : Nat} {low fh rest : Int} {s : PS} {T U : List (Int × Int)} {nw n2 : Int} (h : Once w wx X b mt mu mT mU low fh rest s T U nw) (hl : nw ≤ n2) : Once w wx X b mt mu mT mU low fh rest s T U n2 :=
  ⟨h.ok, h.pool, h.mT, h.mU, h.inv.later hl, h.elow, h.ehigh, h.erest, h.keep, h.x⟩

set_option maxRecDepth 100000 in
set_option maxHeartbeats 4000000 in
theorem once_walk (w : World) (low high rest : Int) (h0 : 0 ≤ low) (h1 : low ≤ 65535) (h2 : 0 ≤ high) (h3 : high ≤ 65535) (hr : 0 ≤ rest) (hr1 : rest ≤ 18446744073709551615) (a0 : Option Addr) (len cap : Nat) (hlen : len ≤ maxLen) (hacts : ActsAt w a0 len) :
    Calls Try.prog 4 #[.agg #[.int .u16 low, .int .u16 high, .int .u64 rest], .slice a0 len cap] w fun e w' => e = .returned (.bool true) ∧ Keeps [] w w' := by
  obtain ⟨f0, f1, f2, f3, f4, f5⟩ := fitHigh_bd h0 h1 h2 h3
  have hm0 : 0 ≤ rest % 1001 := Int.emod_nonneg _ (by omega)
  have hm1 : rest % 1001 ≤ 1000 := by have := Int.emod_lt_of_pos rest (show (0 : Int) < 1001 by omega); omega
  unfold maxLen at hlen
  go_enter Try.func4, Try.ntmps4
  go_wp2_with fail
  refine calls_gen' (fun W1 hW1 => ?_)
  have hx1 : W1.heap[w.heap.size]? = some (.cells #[.int .u16 low, .int .u16 high, .int .u64 rest] 25 (0, 0)) := by rw [hW1]; exact (MapKept.heap_alloc w _).1
  have hz1 : W1.heap.size = w.heap.size + 1 := by rw [hW1]; simp
  have kw1 : Keeps [] w W1 := by rw [hW1]; exact Keeps.alloc _ _ _
  clear hW1
  refine (fit_any _ low high rest h0 h1 h2 h3).mono ?_
  rintro e w2 ⟨rfl, k2⟩
  have hx2 := (k2.block _ (by omega) (by simp)).trans hx1
  have c0 := cell_of_block hx2 0
  have c1 := cell_of_block hx2 1
  have c2 := cell_of_block hx2 2
  have z0 := free_of_block hx2 0
  have z1 := free_of_block hx2 1
  have z2 := free_of_block hx2 2
  simp at c0 c1 c2
  have kw2 := kw1.trans k2
  have hz2 := k2.size
  have HX2 := Lib.hid hx2
  clear hx1 k2 kw1 hx2
  go_upto_region 3 with fail
  refine wp_gen (fun W3 hW3 => ?_)
  have hx3 : W3.heap[w.heap.size]? = some (.cells #[.int .u16 low, .int .u16 (fitHigh low high), .int .u64 (rest % 1001)] 25 (0, 0)) := by
    rw [hW3]; exact heap_setCell_self (heap_setCell_self (heap_setCell_self (heap_setCell_self HX2.out 0 _) 1 _) 2 _) 2 _
  have kw3 : Keeps [] w W3 := by rw [hW3]; exact (((kw2.setCell' (by simp) _).setCell' (by simp) _).setCell' (by simp) _).setCell' (by simp) _
  have hz3 : w.heap.size < W3.heap.size := (Array.getElem?_eq_some_iff.1 hx3).1
  clear hW3 HX2 kw2 hz2 z0 z1 z2 c0 c1 c2 hr hr1
  generalize hfh : fitHigh low high = fh at *
  generalize rest % 1001 = rs at *
  clear hfh
  have c0 := cell_of_block hx3 0
  have c1 := cell_of_block hx3 1
  have c2 := cell_of_block hx3 2
  simp at c0 c1 c2
  have HX3 := Lib.hid hx3
  clear hx3
  go_wp2_with fail
  have hx3 := HX3.out
  clear HX3 c0 c1 c2
  by_cases hbad : newBad low fh rs = true
  · refine (new_bad _ low fh rs hbad).mono ?_
    rintro e w4 ⟨rfl, rfl⟩
    have HX3 := Lib.hid hx3
    clear hx3
    go_wp2_with fail
    refine (awake_any _).mono ?_
    rintro e w5 ⟨rfl, k5⟩
    have hx5 := (k5.block _ hz3 (by simp)).trans HX3.out
    have c0 := cell_of_block hx5 0
    have c1 := cell_of_block hx5 1
    simp at c0 c1
    clear hx5
    unfold newBad maxTime at hbad
    have kf := kw3.trans k5
    by_cases g1 : low = 0
    · subst g1
      clear hbad
      go_wp2_with fail
      go_ret
      exact ⟨rfl, kf⟩
    · have e1 : (low == 0) = false := by simpa using g1
      have g2 : fh < low := by simp [g1] at hbad; omega
      clear hbad g1
      go_wp2_with fail
      go_ret
      exact ⟨rfl, kf⟩
  · simp only [Bool.not_eq_true] at hbad
    have hok := newBad_ok hbad h0 f1 hm0
    refine (new_ok _ low fh rs hbad).mono ?_
    rintro e w4 ⟨b, mt, mu, rfl, p4, k4, e4, e5, e6⟩
    have hx4 := (k4.block _ hz3 (by simp)).trans hx3
    have kw4 := kw3.trans k4
    have hz4 := k4.size
    clear hx3 k4 kw3 hbad f4 f5
    have hmm := @run_makeMap Try.prog
    by_cases hl0 : len = 0
    · subst hl0
      clear hacts
      go_wp2_with fail
      have kw5 := (kw4.alloc' (.map #[] 0)).alloc' (.map #[] 0)
      go_loopg [55] 0 (fun g c wr => g = 0 ∧ c = .int .i64 0 ∧ Keeps [] w wr)
      case atStart => exact ⟨rfl, rfl, kw5⟩
      case round =>
        obtain ⟨rfl, rfl, kwr⟩ := hrel
        go_wp2_with fail
        refine (awake_any _).mono ?_
        rintro e w5 ⟨rfl, k5⟩
        go_wp2_with fail
        go_ret
        exact ⟨rfl, kwr.trans k5⟩
    · obtain ⟨blk, off, rfl, hblk, hact⟩ := hacts.resolve_left hl0
      have HA := Lib.hid hact
      clear hact hacts
      have hstart : Once w ((w4.alloc (.map #[] 0)).alloc (.map #[] 0)) w.heap.size b mt mu w4.heap.size (w4.heap.size + 1) low fh rs (PS.new low fh rs) [] [] 0 := by
        have q1 := p4.keep (Keeps.alloc [] w4 (.map #[] 0)) (by simp) (by simp) (by simp)
        have q2 := q1.keep (Keeps.alloc [] (w4.alloc (.map #[] 0)) (.map #[] 0)) (by simp) (by simp) (by simp)
        refine ⟨hok, q2, (MapAt.made w4 .u16 encI).of_heap (Below.heap_alloc _ _ _ (by simp)), ?_, ?_, rfl, rfl, rfl, (kw4.alloc' _).alloc' _, ?_⟩
        · have := MapAt.made (w4.alloc (.map #[] 0)) .u16 encU
          rw [show (w4.alloc (.map #[] 0)).heap.size = w4.heap.size + 1 by simp] at this
          exact this
        · exact ⟨rfl, by simp [PS.new, AL.keys], by simp [PS.new, AL.keys], by simp [AL.keys], by simp [AL.keys], by simp [PS.new, AL.keys], by simp [PS.new, AL.find], by simp [PS.new], by omega⟩
        · rw [Below.heap_alloc _ _ _ (by simp; omega), Below.heap_alloc _ _ _ (by omega)]; exact hx4
      have HS := Lib.hid hstart
      have hbs := p4.blt
      have hts := p4.tk.lt
      have hus := p4.un.lt
      clear hstart p4 kw4 hx4 hok
      go_wp2_with fail
      clear hmm
      go_loopg [9, 55] len (fun g n c wr => ∃ (k : Nat) (s : PS) (T U : List (Int × Int)) (nw : Int), k ≤ len ∧ k ≤ 200 ∧ g = len - k ∧ c = .int .i64 k ∧ n = .int .u64 nw ∧ nw ≤ 1000 * k ∧ Once w wr w.heap.size b mt mu w4.heap.size (w4.heap.size + 1) low fh rs s T U nw)
      case atStart => exact ⟨0, _, [], [], 0, Nat.zero_le _, by omega, rfl, rfl, rfl, by omega, HS.out⟩
      case round =>
        obtain ⟨k, s, T, U, nw, hk, hk200, rfl, rfl, rfl, hnw, hO⟩ := hrel
        have HO := Lib.hid hO
        have hnw0 := hO.inv.pos
        have kwr := hO.keep
        have hxr := hO.x
        clear hO HS
        by_cases hlt : k < len
        · obtain ⟨what, port, now, b0, b1, d0, d1, g0, g1, g2⟩ := HA.out k hlt
          have hcr : ∀ j, wr.cell? ⟨blk, j, none⟩ = w.cell? ⟨blk, j, none⟩ := fun j => World.cell?_of_block (w := w) (kwr.block blk hblk (by simp))
          rw [← hcr] at g0 g1 g2
          clear hcr
          have hkz : (k : Int) < (len : Int) := by omega
          have HXr := Lib.hid hxr
          clear hxr
          by_cases h60 : k = 200
          · subst h60
            go_wp2_with fail
            refine (awake_any _).mono ?_
            rintro e w5 ⟨rfl, k5⟩
            go_wp2_with fail
            go_ret
            exact ⟨rfl, (kwr.alloc' _).trans k5⟩
          · have hk6 : (k : Int) < 200 := by omega
            have hd0 : 0 ≤ now % 1000 := Int.emod_nonneg _ (by omega)
            have hd1 : now % 1000 ≤ 999 := by have := Int.emod_lt_of_pos now (show (0 : Int) < 1000 by omega); omega
            have hp0 : 0 ≤ port % 40 := Int.emod_nonneg _ (by omega)
            have hp1 : port % 40 ≤ 39 := by have := Int.emod_lt_of_pos port (show (0 : Int) < 40 by omega); omega
            have hnk : nw ≤ 200000 := by omega
            go_upto_if 69 with fail
            have hA5 := (MapKept.heap_alloc wr (.cells #[.int .i64 what, .int .u16 port, .int .u64 now] 41)).1
            have kw5 := kwr.alloc' (.cells #[.int .i64 what, .int .u16 port, .int .u64 now] 41)
            have HO5 := Lib.hid (HO.out.keep0 (Keeps.alloc [] wr (.cells #[.int .i64 what, .int .u16 port, .int .u64 now] 41)))
            have hfar := kwr.size
            have hxlt := (Array.getElem?_eq_some_iff.1 HXr.out).1
            have hb4 : b < wr.heap.size ∧ mt < wr.heap.size ∧ mu < wr.heap.size ∧ w4.heap.size < wr.heap.size ∧ w4.heap.size + 1 < wr.heap.size := ⟨HO.out.pool.blt, HO.out.pool.tk.lt, HO.out.pool.un.lt, HO.out.mT.lt, HO.out.mU.lt⟩
            clear g0 g1 g2 HXr HO
            generalize wr.alloc (.cells #[.int .i64 what, .int .u16 port, .int .u64 now] 41) = w5 at *
            generalize wr.heap.size = A at *
            have hn20 : 0 ≤ nw + now % 1000 := by omega
            have hn21 : nw + now % 1000 ≤ 1000 * ((k + 1 : Nat) : Int) := by omega
            have hn22 : nw ≤ nw + now % 1000 := by omega
            have hn23 : nw + now % 1000 ≤ 200000 := by omega
            generalize nw + now % 1000 = n2 at *
            have hx5 := HO5.out.x
            have x0 := cell_of_block hx5 0
            have x1 := cell_of_block hx5 1
            have x2 := cell_of_block hx5 2
            have a0 := cell_of_block hA5 0
            have a1 := cell_of_block hA5 1
            simp at x0 x1 x2 a0 a1
            have HX5 := Lib.hid hx5
            have HA5 := Lib.hid hA5
            clear hx5 hA5
            by_cases hw : what = 1
            · subst hw
              go_upto_region 15 with fail
              generalize IntKind.u16.wrap (low + port % 40) = p at *
              by_cases ht : s.tkn p = true
              · have hg := (HO5.out.inv.later hn22).give (show n2 ≤ maxTime by unfold maxTime; omega) ht
                have hlk := (HO5.out.inv).look p
                rw [ht] at hlk
                have c := give_any HO5.out.pool HO5.out.ok p n2
                rw [hg.1] at c
                have HC := Lib.hid c
                have HG := Lib.hid hg
                have HL := Lib.hid hlk
                clear c hg hlk x0 x1 x2 a0 a1 ht
                go_wp2_with fail
                refine HC.out.mono ?_
                rintro e w6 ⟨rfl, p6, k6⟩
                clear HC
                have m6 := HO5.out.mT.of_heap (k6.block _ HO5.out.mT.lt (by simp; omega))
                have u6 := HO5.out.mU.of_heap (k6.block _ HO5.out.mU.lt (by simp; omega))
                have hx6 := (k6.block w.heap.size (Array.getElem?_eq_some_iff.1 HX5.out).1 (by simp; omega)).trans HX5.out
                have hlk := m6.lookI p
                rw [HL.out] at hlk
                go_wp2_with (at_delete; refine wpList_delete_at (kk := .u16) (enc := encI) rfl _ _ rfl Try.underlying38 Try.underlying22 rfl _ rfl m6 ?_)
                intro w7 m7 t7
                have k7 := Keeps.turned t7
                have p7 := p6.keep k7 (by simp; omega) (by simp; omega) (by simp; omega)
                have u7 := u6.of_heap (k7.block _ u6.lt (by simp))
                have hx7 := (k7.block w.heap.size (Array.getElem?_eq_some_iff.1 hx6).1 (by simp; omega)).trans hx6
                have x2 := cell_of_block hx7 2
                simp at x2
                have HX7 := Lib.hid hx7
                clear hx6 hx7 m6 u6 hlk p6
                have hsum : IntKind.u64.wrap (n2 + rs) = n2 + rs := IntWalk.u64_in _ (by omega)
                go_wp2_with (at_mapUpdate; refine wpList_mapUpdate_at (kk := .u16) (enc := encU) rfl _ _ _ rfl Try.underlying39 Try.underlying22 rfl _ (n2 + rs) rfl rfl u7 ?_)
                intro w8 u8 t8
                have k8 := Keeps.turned t8
                have p8 := p7.keep k8 (by simp; omega) (by simp; omega) (by simp; omega)
                have m8 := m7.of_heap (k8.block _ m7.lt (by simp))
                have hx8 := (k8.block w.heap.size (Array.getElem?_eq_some_iff.1 HX7.out).1 (by simp; omega)).trans HX7.out
                have hO8 : Once w w8 w.heap.size b mt mu w4.heap.size (w4.heap.size + 1) low fh rs (s.give p n2).2 (AL.del p T) (AL.put p (n2 + rs) U) n2 := by
                  have er := HO5.out.erest
                  have hi := HG.out.2.1
                  rw [er] at hi
                  refine ⟨PS.give_ok HO5.out.ok p n2, p8, m8, u8, hi, HG.out.2.2.1.trans HO5.out.elow, HG.out.2.2.2.1.trans HO5.out.ehigh, HG.out.2.2.2.2.trans er, ?_, hx8⟩
                  have ka : Keeps [b, mt, mu, w4.heap.size, w4.heap.size + 1] w w8 := (kw5.mono (by simp)).trans ((k6.mono (by intro x hx; simp at hx ⊢; omega)).trans ((k7.mono (by intro x hx; simp at hx ⊢; omega)).trans (k8.mono (by intro x hx; simp at hx ⊢; omega))))
                  exact ka.fresh (by intro x hx hlt; simp at hx; omega)
                have HO8 := Lib.hid hO8
                clear hO8 p8 m8 u8 hx8 x2 hsum p7 m7 u7
                go_wp2_with fail
                go_roundg (len - (k + 1))
                case measure => omega
                case rel => exact ⟨k + 1, _, _, _, n2, by omega, by omega, rfl, by go_num, rfl, hn21, HO8.out⟩
              · simp only [Bool.not_eq_true] at ht
                have hg := PS.give_no (s := s) (show n2 ≤ maxTime by unfold maxTime; omega) ht
                have hlk := (HO5.out.inv).look p
                rw [ht] at hlk
                have c := give_any HO5.out.pool HO5.out.ok p n2
                rw [hg] at c
                have HC := Lib.hid c
                have HL := Lib.hid hlk
                clear c hg hlk x0 x1 x2 a0 a1 ht
                go_wp2_with fail
                refine HC.out.mono ?_
                rintro e w6 ⟨rfl, p6, k6⟩
                clear HC
                have m6 := HO5.out.mT.of_heap (k6.block _ HO5.out.mT.lt (by simp; omega))
                have hO6 : Once w w6 w.heap.size b mt mu w4.heap.size (w4.heap.size + 1) low fh rs s T U n2 := by
                  have h := HO5.out.later hn22
                  have u6 := h.mU.of_heap (k6.block _ h.mU.lt (by simp; omega))
                  have hx6 := (k6.block w.heap.size (Array.getElem?_eq_some_iff.1 HX5.out).1 (by simp; omega)).trans HX5.out
                  exact ⟨h.ok, p6, m6, u6, h.inv, h.elow, h.ehigh, h.erest, ((kw5.mono (T := [b, mt, mu]) (by simp)).trans k6).fresh (by intro x hx hlt; simp at hx; omega), hx6⟩
                have HO6 := Lib.hid hO6
                have hlk := m6.lookI p
                rw [HL.out] at hlk
                clear hO6 p6 m6
                go_wp2_with fail
                go_roundg (len - (k + 1))
                case measure => omega
                case rel => exact ⟨k + 1, _, _, _, n2, by omega, by omega, rfl, by go_num, rfl, hn21, HO6.out⟩
            · have hwe : (what == 1) = false := by simpa using hw
              have hat := (HO5.out.inv.later hn22).at
              have c := frees_any HO5.out.pool HO5.out.ok n2 (by omega)
              have hall := hat.1.all hat.2 HO5.out.ok.2.1
              have hok1 := PS.at_ok HO5.out.ok (t := n2) (by omega)
              have hlow : (s.at n2).low = low := HO5.out.elow
              have hhigh : (s.at n2).high = fh := HO5.out.ehigh
              have hrest : (s.at n2).rest = rs := HO5.out.erest
              rw [show s.num = (s.at n2).num from rfl, show s.low = (s.at n2).low from rfl] at c
              have hall2 : (s.at n2).low ≤ (s.at n2).high := HO5.out.ok.2.1
              have hT5 := HO5.out.mT
              have hU5 := HO5.out.mU
              have hX5 := HX5.out
              have hX5l := (Array.getElem?_eq_some_iff.1 hX5).1
              clear hw x0 x1 x2 HO5
              generalize s.at n2 = s1 at *
              have HC := Lib.hid c
              have HAL := Lib.hid hall
              have HLOW := Lib.hid hlow
              have HHIGH := Lib.hid hhigh
              have HAT := Lib.hid hat
              have HREST := Lib.hid hrest
              clear c hall hlow hhigh hat hrest hX5
              go_wp2_with fail
              refine HC.out.mono ?_
              rintro e w6 ⟨rfl, p6, k6⟩
              clear HC
              have hO6 : Once w w6 w.heap.size b mt mu w4.heap.size (w4.heap.size + 1) low fh rs s1 T U n2 :=
                ⟨hok1, p6, hT5.of_heap (k6.block _ hT5.lt (by simp; omega)), hU5.of_heap (k6.block _ hU5.lt (by simp; omega)), HAT.out.1, HLOW.out, HHIGH.out, HREST.out,
                  ((kw5.mono (T := [b]) (by simp)).trans k6).fresh (by intro x hx hlt; simp at hx; omega), (k6.block w.heap.size hX5l (by simp; omega)).trans HX5.out⟩
              have HO6 := Lib.hid hO6
              have hw6 : A < w6.heap.size ∧ w.heap.size < w6.heap.size := by
                have h1 := k6.size
                have h2 := (Array.getElem?_eq_some_iff.1 HA5.out).1
                omega
              clear hO6 p6 k6 hT5 hU5
              go_upto_region 23 with fail
              go_wp2_with (at_range; refine wpList_range_at (o := ⟨some 101, _, _, _, _, _⟩) (kk := .u16) (enc := encU) rfl _ rfl Try.underlying39 rfl HO6.out.mU ?_)
              intro w7 r7 k7 z7
              have hO7 := HO6.out.keep0 k7
              have HO7 := Lib.hid hO7
              clear hO7
              go_wp2_with fail
              go_loopg [15] U.length (fun g rv wx => ∃ (left : List (Int × Int)) (m : Nat), g = left.length ∧ rv = .int .i64 m ∧ m + left.countP (fun x => !s1.tkn x.1 && decide (n2 < x.2)) = U.countP (fun x => !s1.tkn x.1 && decide (n2 < x.2)) ∧
                RangeAt wx (w4.heap.size + 1) w6.heap.size .u16 encU U left ∧ Once w wx w.heap.size b mt mu w4.heap.size (w4.heap.size + 1) low fh rs s1 T U n2)
              case atStart => exact ⟨U, 0, rfl, rfl, by simp, r7, HO7.out⟩
              case round =>
                obtain ⟨left, m, rfl, rfl, hcnt, hrg, hOx⟩ := hrel
                have HCN := Lib.hid hcnt
                have HOX := Lib.hid hOx
                have hmle : m ≤ U.countP (fun x => !s1.tkn x.1 && decide (n2 < x.2)) := by omega
                have hmsm : m ≤ 65536 := by
                  have h1 := HAL.out.1
                  have h2 : s1.num ≤ 65536 := by unfold PS.num; have := hok1; unfold PS.ok at this; omega
                  omega
                clear hcnt hOx HO7 hmle
                go_wp2_with (at_next; refine wpList_next_at (o := ⟨some 102, _, _, _, _, _⟩) (kk := .u16) (enc := encU) rfl _ rfl rfl hrg ?_ ?_)
                · intro hl0
                  subst hl0
                  have hm := HCN.out
                  simp only [List.countP_nil, Nat.add_zero] at hm
                  have hsum := HAL.out.1
                  rw [← hm] at hsum
                  have hnum : (s1.num : Int) = fh - low + 1 := by
                    have h1 := HLOW.out; have h2 := HHIGH.out
                    unfold PS.num; omega
                  have hlen : ((s1.frees s1.num s1.low : Int) + m + T.length) = fh - low + 1 := by omega
                  have q1 : ((s1.frees s1.num s1.low : Int) + m + T.length != fh - low + 1) = false := by simp [hlen]
                  have hlt2 : s1.taken.length = T.length := HAL.out.2
                  have b1 : (s1.frees s1.num s1.low : Int) ≤ 65536 := by omega
                  have b2 : (T.length : Int) ≤ 65536 := by omega
                  have hTl := fun w' (h : w'.heap[w4.heap.size]? = wr.heap[w4.heap.size]?) => (HOX.out.mT.of_heap (w' := w') h).len (P := Try.prog) Try.underlying38
                  have HSUM := Lib.hid hlen
                  have c := count_any HOX.out.pool
                  rw [hlt2] at c
                  have HC := Lib.hid c
                  have hTl0 := fun ty => hTl wr rfl ty
                  have x0 := cell_of_block HOX.out.x 0
                  have x1 := cell_of_block HOX.out.x 1
                  simp at x0 x1
                  have ht := HAT.out.1.take HAT.out.2 (show n2 ≤ maxTime by unfold maxTime; omega) hall2
                  rw [HLOW.out, HHIGH.out] at ht
                  have hpool := HOX.out.pool
                  have ct := take_any hpool hok1 n2
                  rcases ht with ⟨hfz, htk⟩ | ⟨n, hfp, htk, hn1, hn2, hn3, hn4, hn5, hn6⟩
                  · rw [htk] at ct
                    have CT := Lib.hid ct
                    have hfz' : ((s1.frees s1.num s1.low : Nat) : Int) = 0 := by rw [HLOW.out]; omega
                    have hf0 : (decide ((0 : Int) < (s1.frees s1.num s1.low : Int))) = false := by rw [hfz']; decide
                    have hf1 : (decide (0 < s1.frees s1.num s1.low)) = false := by rw [HLOW.out, hfz]; decide
                    clear c hm hsum hnum hlen hlt2 hTl hrg ct hpool htk hfz hfz'
                    go_wp2_with fail
                    refine HC.out.mono ?_
                    rintro e w8 ⟨rfl, rfl⟩
                    go_wp2_with fail
                    refine CT.out.mono ?_
                    rintro e w8 ⟨rfl, p8, k8⟩
                    have hO8 : Once w w8 w.heap.size b mt mu w4.heap.size (w4.heap.size + 1) low fh rs s1 T U n2 := by
                      exact ⟨HOX.out.ok, p8, HOX.out.mT.of_heap (k8.block _ HOX.out.mT.lt (by simp; omega)), HOX.out.mU.of_heap (k8.block _ HOX.out.mU.lt (by simp; omega)), HOX.out.inv, HOX.out.elow, HOX.out.ehigh, HOX.out.erest, (((HOX.out.keep.mono (T := [b, mt, mu]) (by simp)).trans k8).fresh (by intro x hx hlt; simp at hx; omega)), (k8.block w.heap.size (Array.getElem?_eq_some_iff.1 HOX.out.x).1 (by simp; omega)).trans HOX.out.x⟩
                    have HO8 := Lib.hid hO8
                    clear hO8 p8
                    go_wp2_with fail
                    go_roundg (len - (k + 1))
                    case measure => omega
                    case rel => exact ⟨k + 1, _, _, _, n2, by omega, by omega, rfl, by go_num, rfl, hn21, HO8.out⟩
                  · rw [htk] at ct
                    have CT := Lib.hid ct
                    have hlk := HOX.out.inv.look n
                    rw [hn3] at hlk
                    have hfp' : (0 : Int) < (s1.frees s1.num s1.low : Int) := by rw [HLOW.out]; omega
                    have hfp1 : 0 < s1.frees s1.num s1.low := by rw [HLOW.out]; exact hfp
                    have HL := Lib.hid hlk
                    have HN5 := Lib.hid hn5
                    have HN6 := Lib.hid hn6
                    clear c hm hsum hnum hlen hlt2 hTl hrg ct hpool htk hfp hlk hn3 hn5 hn6
                    go_wp2_with fail
                    refine HC.out.mono ?_
                    rintro e w8 ⟨rfl, rfl⟩
                    go_wp2_with fail
                    refine CT.out.mono ?_
                    rintro e w8 ⟨rfl, p8, k8⟩
                    clear HC CT hTl0 x0 x1
                    have m8 := HOX.out.mT.of_heap (k8.block _ HOX.out.mT.lt (by simp; omega))
                    have u8 := HOX.out.mU.of_heap (k8.block _ HOX.out.mU.lt (by simp; omega))
                    have hx8 := (k8.block w.heap.size (Array.getElem?_eq_some_iff.1 HOX.out.x).1 (by simp; omega)).trans HOX.out.x
                    have x0 := cell_of_block hx8 0
                    have x1 := cell_of_block hx8 1
                    simp at x0 x1
                    have HX8 := Lib.hid hx8
                    have l8 := m8.lookI n
                    rw [HL.out] at l8
                    have l9 := u8.lookU n
                    have ct := taken_any p8 n
                    rw [HN5.out] at ct
                    have CT := Lib.hid ct
                    clear ct hx8
                    go_wp2_with fail
                    refine CT.out.mono ?_
                    rintro e w9 ⟨rfl, rfl⟩
                    clear l8 l9 x0 x1 CT
                    go_wp2_with (at_mapUpdate; refine wpList_mapUpdate_at (kk := .u16) (enc := encI) rfl _ _ _ rfl Try.underlying38 Try.underlying22 rfl _ 1 rfl rfl m8 ?_)
                    intro w9 m9 t9
                    have k9 := Keeps.turned t9
                    have hO9 : Once w w9 w.heap.size b mt mu w4.heap.size (w4.heap.size + 1) low fh rs (s1.got n) (AL.put n 1 T) U n2 := by
                      have ka : Keeps [b, mt, mu, w4.heap.size] w w9 := ((HOX.out.keep.mono (by simp)).trans (k8.mono (by intro x hx; simp at hx ⊢; omega))).trans (k9.mono (by intro x hx; simp at hx ⊢; omega))
                      exact ⟨HOX.out.ok, p8.keep k9 (by simp; omega) (by simp; omega) (by simp; omega), m9, u8.of_heap (k9.block _ u8.lt (by simp)), HN6.out, HOX.out.elow, HOX.out.ehigh, HOX.out.erest, ka.fresh (by intro x hx hlt; simp at hx; omega), (k9.block w.heap.size (Array.getElem?_eq_some_iff.1 HX8.out).1 (by simp; omega)).trans HX8.out⟩
                    have HO9 := Lib.hid hO9
                    clear hO9 p8 m8 u8 m9
                    go_wp2_with fail
                    go_roundg (len - (k + 1))
                    case measure => omega
                    case rel => exact ⟨k + 1, _, _, _, n2, by omega, by omega, rfl, by go_num, rfl, hn21, HO9.out⟩
                · intro l1 xp xt l2 w8 hl r8 k8 z8 he
                  have he' : (Instr.entry (.pointer (some ⟨w6.heap.size, 0, none⟩))).run Try.prog w8 = .ok (.tuple #[.int .u16 xp, .int .u64 xt]) w8 := he
                  clear he
                  have m8 := HOX.out.mT.of_heap (k8.block _ HOX.out.mT.lt (by simp; omega))
                  have hlk := m8.lookI xp
                  rw [HAT.out.1.look xp] at hlk
                  have hO8 := HOX.out.keepS k8 (((HOX.out.keep.mono (T := [w6.heap.size]) (by simp)).trans k8).fresh (by intro x hx hlt; simp at hx; omega)) (by simp; omega) (by simp; omega) (by simp; omega) (by simp; omega) (by simp; omega) (by simp; omega)
                  have HO8 := Lib.hid hO8
                  have hcp : left.countP (fun x => !s1.tkn x.1 && decide (n2 < x.2)) = (l1 ++ l2).countP (fun x => !s1.tkn x.1 && decide (n2 < x.2)) + (if (!s1.tkn xp && decide (n2 < xt)) = true then 1 else 0) := by
                    rw [hl, List.countP_append, List.countP_cons, List.countP_append]; dsimp only; omega
                  have hll : left.length = (l1 ++ l2).length + 1 := by rw [hl]; simp; omega
                  have HCP := Lib.hid hcp
                  have HLL := Lib.hid hll
                  clear hO8 m8 hcp hll hl
                  by_cases ht : s1.tkn xp = true
                  · rw [ht] at hlk
                    have ht' : (!s1.tkn xp && decide (n2 < xt)) = false := by simp [ht]
                    have HT := Lib.hid ht'
                    clear ht ht'
                    go_wp2_with fail
                    go_roundg (l1 ++ l2).length
                    case measure => have := HLL.out; omega
                    case rel => exact ⟨l1 ++ l2, m, rfl, rfl, by have := HCP.out; rw [HT.out] at this; simp only [Bool.false_eq_true, if_false, Nat.add_zero] at this; rw [← this]; exact HCN.out, r8, HO8.out⟩
                  · simp only [Bool.not_eq_true] at ht
                    rw [ht] at hlk
                    by_cases hlt2 : n2 < xt
                    · have ht' : (!s1.tkn xp && decide (n2 < xt)) = true := by simp [ht, hlt2]
                      have HT := Lib.hid ht'
                      clear ht ht'
                      go_wp2_with fail
                      go_roundg (l1 ++ l2).length
                      case measure => have := HLL.out; omega
                      case rel => exact ⟨l1 ++ l2, m + 1, rfl, by go_num, by have := HCP.out; rw [HT.out] at this; have h2 := HCN.out; simp only [if_true] at this; omega, r8, HO8.out⟩
                    · have ht' : (!s1.tkn xp && decide (n2 < xt)) = false := by simp [hlt2]
                      have HT := Lib.hid ht'
                      clear ht ht'
                      go_wp2_with fail
                      go_roundg (l1 ++ l2).length
                      case measure => have := HLL.out; omega
                      case rel => exact ⟨l1 ++ l2, m, rfl, rfl, by have := HCP.out; rw [HT.out] at this; simp only [Bool.false_eq_true, if_false, Nat.add_zero] at this; rw [← this]; exact HCN.out, r8, HO8.out⟩
        · have hkz : (len : Int) ≤ (k : Int) := by omega
          clear hxr
          go_wp2_with fail
          refine (awake_any _).mono ?_
          rintro e w5 ⟨rfl, k5⟩
          go_wp2_with fail
          go_ret
          exact ⟨rfl, kwr.trans k5⟩
end Go.Proofs.Ytihjdlmmjdjggaa
