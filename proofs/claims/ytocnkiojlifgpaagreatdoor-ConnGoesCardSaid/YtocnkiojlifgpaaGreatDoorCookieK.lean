/-
  The walks of package cookie: what a cookie says. Condition: numbers are in the ranges of their kinds.
-/
import Derived.Test.YtocnkiojlifgpaaGreatDoorCookieM
import Derived.Deep.RegionHeld3
namespace Go.Proofs.YtocnkiojlifgpaaGreatDoor
open Go.RowKit

theorem keeps_cell {V W : World} (k : Keeps [] V W) {a : Addr} {v : Value} (h : V.cell? a = some v) : W.cell? a = some v := by
  have hb : a.block < V.heap.size := by
    unfold World.cell? at h
    split at h
    · rename_i hh; exact (Array.getElem?_eq_some_iff.1 hh).1
    · cases h
  exact (World.cell?_of_block (w := V) (k.block _ hb (by simp))).trans h
def isAt (key : Int) (t : Tup) (cl ep ck : Int) : Bool := decide (topOf (hashOf key t cl ep) = ck / 256 * 256)
theorem isAt_eq {key : Int} {t : Tup} {cl ep ck : Int} : (topOf (hashOf key t cl ep) == ck / 256 * 256) = isAt key t cl ep ck := by unfold isAt; rfl

set_option maxHeartbeats 2000000 in
theorem is_any (w : World) (b1 b2 b3 b4 : Nat) (key : Int) (t : Tup) (cl ep ck : Int) (hk : U64 key) (ht : t.Ok) (hc0 : 0 ≤ cl) (hc1 : cl ≤ 4294967295) (he0 : 0 ≤ ep) (he1 : ep ≤ 18446744073709551615) (hk0 : 0 ≤ ck) (hk1 : ck ≤ 4294967295)
    (c1 : w.cell? ⟨b1, 0, none⟩ = some (.int .u64 key)) (q0 : w.cell? ⟨b2, 0, none⟩ = some (.int .u8 t.p)) (q1 : w.cell? ⟨b2, 1, none⟩ = some (.int .u32 t.a)) (q2 : w.cell? ⟨b2, 2, none⟩ = some (.int .u32 t.b)) (q3 : w.cell? ⟨b2, 3, none⟩ = some (.int .u16 t.c)) (q4 : w.cell? ⟨b2, 4, none⟩ = some (.int .u16 t.d)) (c3 : w.cell? ⟨b3, 0, none⟩ = some (.int .u32 cl)) (c4 : w.cell? ⟨b4, 0, none⟩ = some (.int .u32 ck)) :
    Calls Tryz.prog 100 #[.int .u64 ep, .pointer (some ⟨b1, 0, none⟩), .pointer (some ⟨b2, 0, none⟩), .pointer (some ⟨b3, 0, none⟩), .pointer (some ⟨b4, 0, none⟩)] w fun e w' => e = .returned (.bool (isAt key t cl ep ck)) ∧ Keeps [] w w' := by
  have HH := Lib.hid (hashOf_bd hk t cl ep)
  have HI := Lib.hid (@isAt_eq key t cl ep ck)
  have HK := Lib.hid hk
  have HT := Lib.hid ht
  generalize isAt key t cl ep ck = r at *
  obtain ⟨tp, ta, tb, tc, td⟩ := t
  simp only at q0 q1 q2 q3 q4
  clear hk ht
  go_enter Tryz.func100, Tryz.ntmps100
  go_upto_region 1 with fail
  obtain ⟨h0, h1⟩ := HH.out
  have hw : IntKind.u32.wrap (ck / 256 * 256) = ck / 256 * 256 := by rw [IntKind.wrap_u32]; omega
  have HW := Lib.hid hw
  clear hw
  go_region_held3 (fun w' => Keeps [] w w' ∧ w'.cell? ⟨b1, 0, none⟩ = some (.int .u64 key) ∧ w'.cell? ⟨b2, 0, none⟩ = some (.int .u8 tp) ∧ w'.cell? ⟨b2, 1, none⟩ = some (.int .u32 ta) ∧ w'.cell? ⟨b2, 2, none⟩ = some (.int .u32 tb) ∧ w'.cell? ⟨b2, 3, none⟩ = some (.int .u16 tc) ∧ w'.cell? ⟨b2, 4, none⟩ = some (.int .u16 td) ∧ w'.cell? ⟨b3, 0, none⟩ = some (.int .u32 cl) ∧ w'.cell? ⟨b4, 0, none⟩ = some (.int .u32 ck)) ((repeat' apply And.intro) <;> first | assumption | exact Keeps.drew _ _ | exact Keeps.drew' (by assumption) | go_keep) (first | (go_at_call 98; refine (hash_any _ _ ⟨tp, ta, tb, tc, td⟩ _ _ HK.out HT.out hc0 hc1 he0 he1).mono ?_; rintro e w2 ⟨rfl, k2⟩; have kw := (Keeps.drew [] w).trans k2; have d1 := keeps_cell kw c1; have d2 := keeps_cell kw q0; have d3 := keeps_cell kw q1; have d4 := keeps_cell kw q2; have d5 := keeps_cell kw q3; have d6 := keeps_cell kw q4; have d7 := keeps_cell kw c3; have d8 := keeps_cell kw c4) | (go_at_call 97; refine (top_any _ _ h0 h1).mono ?_; rintro e w2 ⟨rfl, rfl⟩))
  go_wp2_with fail
  go_ret
  refine ⟨?_, by assumption⟩
  rw [← HI.out, HW.out]
  rfl

theorem five_allocs (w : World) (o1 o2 o3 o4 o5 : Obj) : (((((w.alloc o1).alloc o2).alloc o3).alloc o4).alloc o5).heap[w.heap.size]? = some o1 ∧ (((((w.alloc o1).alloc o2).alloc o3).alloc o4).alloc o5).heap[w.heap.size + 1]? = some o2 ∧ (((((w.alloc o1).alloc o2).alloc o3).alloc o4).alloc o5).heap[w.heap.size + 2]? = some o3 ∧ (((((w.alloc o1).alloc o2).alloc o3).alloc o4).alloc o5).heap[w.heap.size + 3]? = some o4 ∧ (((((w.alloc o1).alloc o2).alloc o3).alloc o4).alloc o5).heap[w.heap.size + 4]? = some o5 := by
  obtain ⟨a1, a2⟩ := two_allocs w o1 o2
  obtain ⟨a3, a4⟩ := two_allocs ((w.alloc o1).alloc o2) o3 o4
  have e : ((w.alloc o1).alloc o2).heap.size = w.heap.size + 2 := by simp
  have e4 : ((((w.alloc o1).alloc o2).alloc o3).alloc o4).heap.size = w.heap.size + 4 := by simp
  have a5 := (MapKept.heap_alloc ((((w.alloc o1).alloc o2).alloc o3).alloc o4) o5).1
  rw [e] at a3 a4
  rw [e4] at a5
  have k : ∀ {i : Nat} {o : Obj}, ((w.alloc o1).alloc o2).heap[i]? = some o → (((((w.alloc o1).alloc o2).alloc o3).alloc o4).alloc o5).heap[i]? = some o := by
    intro i o h
    have hi : i < ((w.alloc o1).alloc o2).heap.size := (Array.getElem?_eq_some_iff.1 h).1
    rw [Below.heap_alloc _ _ _ (by rw [e4]; omega), Below.heap_alloc _ _ _ (by simp; omega), Below.heap_alloc _ _ _ (by omega)]
    exact h
  have k2 : ∀ {i : Nat} {o : Obj}, i < w.heap.size + 4 → ((((w.alloc o1).alloc o2).alloc o3).alloc o4).heap[i]? = some o → (((((w.alloc o1).alloc o2).alloc o3).alloc o4).alloc o5).heap[i]? = some o := by
    intro i o hi h
    rw [Below.heap_alloc _ _ _ (by rw [e4]; exact hi)]
    exact h
  exact ⟨k a1, k a2, k2 (by omega) a3, k2 (by omega) a4, a5⟩

def fresh (key : Int) (t : Tup) (cl tick ck : Int) : Bool := isAt key t cl (tick / 64) ck || (!decide (tick / 64 = 0) && isAt key t cl (tick / 64 - 1) ck)
def told (ck : Int) : Inf := ⟨ck / 32 % 8, ck / 16 % 2 == 1, if ck % 16 = 15 then -1 else ck % 16⟩
def checkI (key : Int) (t : Tup) (cl tick ck : Int) : Inf := if fresh key t cl tick ck then told ck else ⟨0, false, 0⟩
def checkE (key : Int) (t : Tup) (cl tick ck : Int) : Int := if fresh key t cl tick ck then 0 else 25
theorem and7 {x : Int} (h0 : 0 ≤ x) (h1 : x ≤ 4294967295) : bits .and .u32 x 7 = x % 8 := by
  rw [u32_and x 7 h0 (by omega) (by omega) (by omega), show (7 : Int).toNat = 7 from rfl, nat_mask3]; omega
theorem and1 {x : Int} (h0 : 0 ≤ x) (h1 : x ≤ 4294967295) : bits .and .u32 x 1 = x % 2 := by
  rw [u32_and x 1 h0 (by omega) (by omega) (by omega), show (1 : Int).toNat = 1 from rfl, nat_mask1]; omega
theorem and15 {x : Int} (h0 : 0 ≤ x) (h1 : x ≤ 4294967295) : bits .and .u32 x 15 = x % 16 := by
  rw [u32_and x 15 h0 (by omega) (by omega) (by omega), show (15 : Int).toNat = 15 from rfl, nat_mask4]; omega

set_option maxHeartbeats 2000000 in
theorem check_any (w : World) (key : Int) (t : Tup) (cl tick ck : Int) (hk : U64 key) (ht : t.Ok) (hc0 : 0 ≤ cl) (hc1 : cl ≤ 4294967295) (he0 : 0 ≤ tick) (he1 : tick ≤ 18446744073709551615) (hk0 : 0 ≤ ck) (hk1 : ck ≤ 4294967295) :
    Calls Tryz.prog 53 #[.int .u64 key, tupV t, .int .u32 cl, .int .u64 tick, .int .u32 ck] w fun e w' => e = .returned (.tuple #[infV (checkI key t cl tick ck), .int .i64 (checkE key t cl tick ck)]) ∧ Keeps [] w w' := by
  have HO := Lib.hid (show fresh key t cl tick ck = true → checkI key t cl tick ck = told ck ∧ checkE key t cl tick ck = 0 from fun h => by unfold checkI checkE; rw [if_pos h, if_pos h]; exact ⟨rfl, rfl⟩)
  have HN := Lib.hid (show fresh key t cl tick ck = false → checkI key t cl tick ck = ⟨0, false, 0⟩ ∧ checkE key t cl tick ck = 25 from fun h => by unfold checkI checkE; rw [h]; exact ⟨rfl, rfl⟩)
  have HF := Lib.hid (show fresh key t cl tick ck = (isAt key t cl (tick / 64) ck || (!decide (tick / 64 = 0) && isAt key t cl (tick / 64 - 1) ck)) from rfl)
  have HI := Lib.hid (fun (W : World) (b1 b2 b3 b4 : Nat) (ep : Int) (e0 : 0 ≤ ep) (e1 : ep ≤ 18446744073709551615) => is_any W b1 b2 b3 b4 key t cl ep ck hk ht hc0 hc1 e0 e1 hk0 hk1)
  generalize fresh key t cl tick ck = fr at *
  generalize checkI key t cl tick ck = ri at *
  generalize checkE key t cl tick ck = re at *
  obtain ⟨tp, ta, tb, tc, td⟩ := t
  have HK := Lib.hid hk
  have HT := Lib.hid ht
  clear hk ht
  unfold tupV
  go_enter Tryz.func53, Tryz.ntmps53
  go_upto_region 1 with fail
  refine wp_gn (fun W1 hW1 => ?_)
  rw [show w.heap.size + 1 + 1 + 1 + 1 = w.heap.size + 4 from rfl]
  have kW : Keeps [] w W1 := by rw [hW1]; exact (((((Keeps.refl _ _).alloc' _).alloc' _).alloc' _).alloc' _).alloc' _
  have hs := five_allocs w (.cells #[.int .u64 key] 30) (.cells #[.int .u8 tp, .int .u32 ta, .int .u32 tb, .int .u16 tc, .int .u16 td] 65) (.cells #[.int .u32 cl] 23) (.cells #[.int .u32 ck] 23) (.cells #[.int .i64 0, .bool false, .int .i64 0] 116)
  rw [← hW1] at hs
  have HX := Lib.hid hs
  obtain ⟨hx1, hx2, hx3, hx4, hx5⟩ := hs
  have hsz : W1.heap.size = w.heap.size + 5 := by rw [hW1]; simp
  have c1 := cell_of_block hx1 0
  have q0 := cell_of_block hx2 0
  have q1 := cell_of_block hx2 1
  have q2 := cell_of_block hx2 2
  have q3 := cell_of_block hx2 3
  have q4 := cell_of_block hx2 4
  have c3 := cell_of_block hx3 0
  have c4 := cell_of_block hx4 0
  simp at c1 q0 q1 q2 q3 q4 c3 c4
  have KW := Lib.hid kW
  have SZ := Lib.hid hsz
  have hj1 := HI.out W1 w.heap.size (w.heap.size + 1) (w.heap.size + 2) (w.heap.size + 3) (tick / 64) (by omega) (by omega) c1 q0 q1 q2 q3 q4 c3 c4
  have J1 := Lib.hid hj1
  clear kW hx1 hx2 hx3 hx4 hx5 hW1 hsz c1 q0 q1 q2 q3 q4 c3 c4 hj1
  go_wp2_with fail
  refine J1.out.mono ?_
  rintro e w2 ⟨rfl, k2⟩
  have K2 := Lib.hid k2
  obtain ⟨hx1, hx2, hx3, hx4, hx5⟩ := HX.out
  have y5 := (k2.block (w.heap.size + 4) (by rw [SZ.out]; omega) (by simp)).trans hx5
  have y4 := (k2.block (w.heap.size + 3) (by rw [SZ.out]; omega) (by simp)).trans hx4
  have Y5 := Lib.hid y5
  have Y4 := Lib.hid y4
  have SZ2 := Lib.hid k2.size
  clear k2 hx1 hx2 hx3 hx4 hx5 y4 y5
  cases hi1 : isAt key ⟨tp, ta, tb, tc, td⟩ cl (tick / 64) ck with
  | true =>
    obtain ⟨e1, e2⟩ := HO.out (by rw [HF.out, hi1]; rfl)
    have E1 := Lib.hid e1
    have E2 := Lib.hid e2
    have c4 := cell_of_block Y4.out 0
    simp at c4
    clear e1 e2 hi1
    go_upto_region 6 with fail
    rw [and7 (by omega) (by omega), and1 (by omega) (by omega), and15 (by omega) (by omega)]
    have w1 : RowKit.wrap64 (ck / 32 % 8) = ck / 32 % 8 := by unfold RowKit.wrap64; omega
    have w2' : RowKit.wrap64 (ck % 16) = ck % 16 := by unfold RowKit.wrap64; omega
    rw [w1, w2']
    clear w1 w2'
    refine wp_gn (fun W3 hW3 => ?_)
    have z5 := (Below.heap_alloc w2 (.cells #[.int .i64 (ck / 32 % 8), .bool (ck / 16 % 2 == 1), .int .i64 (ck % 16)] 116) (w.heap.size + 4) (by have := SZ2.out; rw [SZ.out] at this; omega)).trans Y5.out
    have zn := (MapKept.heap_alloc w2 (.cells #[.int .i64 (ck / 32 % 8), .bool (ck / 16 % 2 == 1), .int .i64 (ck % 16)] 116)).1
    have k3 : Keeps [] w2 W3 := by rw [hW3]; exact (Keeps.refl _ _).alloc' _
    rw [← hW3] at z5 zn
    have HW3 := Lib.hid hW3
    have KW3 := Lib.hid (KW.out.trans (K2.out.trans k3))
    have Z5 := Lib.hid z5
    have ZN := Lib.hid zn
    have m0 := cell_of_block zn 0
    have m1 := cell_of_block zn 1
    have m2 := cell_of_block zn 2
    have f2 := free_of_block zn 2
    have fr0 := free_of_block z5 0
    have fr1 := free_of_block z5 1
    have fr2 := free_of_block z5 2
    have r0 := cell_of_block z5 0
    have r1 := cell_of_block z5 1
    have r2 := cell_of_block z5 2
    simp at m0 m1 m2 r0 r1 r2
    clear c4 hW3 k3 z5 zn
    by_cases h15 : ck % 16 = 15
    · have hne : ¬ w.heap.size + 4 = w2.heap.size := by have := SZ2.out; rw [SZ.out] at this; omega
      have hb : (ck % 16 == 15) = true := by rw [h15]; rfl
      go_upto_region 8 with fail
      refine wp_gn (fun W4 hW4 => ?_)
      have z4 := (Below.heap_setCell W3 ⟨w2.heap.size, 2, none⟩ (.int .i64 (-1)) (w.heap.size + 4) hne).trans Z5.out
      have n4 := heap_setCell_self ZN.out 2 (.int .i64 (-1))
      rw [← hW4] at z4 n4
      have KW4 := Lib.hid (show Keeps [] w W4 by rw [hW4]; exact KW3.out.setCell' (p := ⟨w2.heap.size, 2, none⟩) (Or.inl (by simp; have := SZ2.out; rw [SZ.out] at this; omega)) _)
      clear hW4 m0 m1 m2 f2 fr0 fr1 fr2 r0 r1 r2
      have m0 := cell_of_block n4 0
      have m1 := cell_of_block n4 1
      have m2 := cell_of_block n4 2
      have fr0 := free_of_block z4 0
      have fr1 := free_of_block z4 1
      have fr2 := free_of_block z4 2
      have r0 := cell_of_block z4 0
      have r1 := cell_of_block z4 1
      have r2 := cell_of_block z4 2
      simp at m0 m1 m2 r0 r1 r2
      clear z4 n4
      go_wp2_with fail
      refine bodyPost_ret (v := .tuple #[.agg #[.int .i64 (ck / 32 % 8), .bool (ck / 16 % 2 == 1), .int .i64 (-1)], .int .i64 0]) (by simp [results, Tryz.results53, go_sem, r0, r1, r2]) rfl ⟨?_, ?_⟩
      · rw [E1.out, E2.out]
        simp [infV, told, h15]
      · exact ((KW4.out.setCell' (p := ⟨w.heap.size + 4, 0, none⟩) (Or.inl (by simp)) _).setCell' (p := ⟨w.heap.size + 4, 1, none⟩) (Or.inl (by simp)) _).setCell' (p := ⟨w.heap.size + 4, 2, none⟩) (Or.inl (by simp)) _
    · have hb : (ck % 16 == 15) = false := by simpa using h15
      go_upto_region 8 with fail
      go_wp2_with fail
      refine bodyPost_ret (v := .tuple #[.agg #[.int .i64 (ck / 32 % 8), .bool (ck / 16 % 2 == 1), .int .i64 (ck % 16)], .int .i64 0]) (by simp [results, Tryz.results53, go_sem, r0, r1, r2]) rfl ⟨?_, ?_⟩
      · rw [E1.out, E2.out]
        simp [infV, told, h15]
      · exact ((KW3.out.setCell' (p := ⟨w.heap.size + 4, 0, none⟩) (Or.inl (by simp)) _).setCell' (p := ⟨w.heap.size + 4, 1, none⟩) (Or.inl (by simp)) _).setCell' (p := ⟨w.heap.size + 4, 2, none⟩) (Or.inl (by simp)) _
  | false =>
    by_cases htz : tick / 64 = 0
    · have htd : (tick / 64 == 0) = true := by rw [htz]; rfl
      obtain ⟨e1, e2⟩ := HN.out (by rw [HF.out, hi1]; simp [htz])
      have E1 := Lib.hid e1
      have E2 := Lib.hid e2
      have fr0 := free_of_block Y5.out 0
      have fr1 := free_of_block Y5.out 1
      have fr2 := free_of_block Y5.out 2
      have r0 := cell_of_block Y5.out 0
      have r1 := cell_of_block Y5.out 1
      have r2 := cell_of_block Y5.out 2
      simp at r0 r1 r2
      clear e1 e2 hi1
      go_wp2_with fail
      refine bodyPost_ret (v := .tuple #[.agg #[.int .i64 0, .bool false, .int .i64 0], .int .i64 25]) (by simp [results, Tryz.results53, go_sem, r0, r1, r2]) rfl ⟨?_, ?_⟩
      · rw [E1.out, E2.out]
        rfl
      · exact (((KW.out.trans K2.out).setCell' (p := ⟨w.heap.size + 4, 0, none⟩) (Or.inl (by simp)) _).setCell' (p := ⟨w.heap.size + 4, 1, none⟩) (Or.inl (by simp)) _).setCell' (p := ⟨w.heap.size + 4, 2, none⟩) (Or.inl (by simp)) _
    · have htd : (tick / 64 == 0) = false := by simpa using htz
      have hx := HX.out
      have kk := K2.out
      have c1 := cell_of_block hx.1 0
      have q0 := cell_of_block hx.2.1 0
      have q1 := cell_of_block hx.2.1 1
      have q2 := cell_of_block hx.2.1 2
      have q3 := cell_of_block hx.2.1 3
      have q4 := cell_of_block hx.2.1 4
      have c3 := cell_of_block hx.2.2.1 0
      have c4 := cell_of_block hx.2.2.2.1 0
      simp at c1 q0 q1 q2 q3 q4 c3 c4
      have hj2 := HI.out w2 w.heap.size (w.heap.size + 1) (w.heap.size + 2) (w.heap.size + 3) (tick / 64 - 1) (by omega) (by omega) (keeps_cell kk c1) (keeps_cell kk q0) (keeps_cell kk q1) (keeps_cell kk q2) (keeps_cell kk q3) (keeps_cell kk q4) (keeps_cell kk c3) (keeps_cell kk c4)
      have J2 := Lib.hid hj2
      have HTZ := Lib.hid htz
      have ht1 : 1 ≤ tick / 64 := by omega
      clear hx kk c1 q0 q1 q2 q3 q4 c3 c4 hj2 htz
      have HI1 := Lib.hid hi1
      clear hi1
      go_wp2_with fail
      refine J2.out.mono ?_
      rintro e w5 ⟨rfl, k5⟩
      have y5 := (k5.block (w.heap.size + 4) (by have := SZ2.out; rw [SZ.out] at this; omega) (by simp)).trans Y5.out
      have y4 := (k5.block (w.heap.size + 3) (by have := SZ2.out; rw [SZ.out] at this; omega) (by simp)).trans Y4.out
      have V5 := Lib.hid y5
      have V4 := Lib.hid y4
      have K5 := Lib.hid (K2.out.trans k5)
      have SZ5 := Lib.hid (Nat.le_trans SZ2.out k5.size)
      have hi1 := HI1.out
      have htz := HTZ.out
      clear k5 y4 y5
      cases hi2 : isAt key ⟨tp, ta, tb, tc, td⟩ cl (tick / 64 - 1) ck with
      | true =>
        obtain ⟨e1, e2⟩ := HO.out (by rw [HF.out, hi1, hi2]; simp [htz])
        clear htz
        have E1 := Lib.hid e1
        have E2 := Lib.hid e2
        have c4 := cell_of_block V4.out 0
        simp at c4
        clear e1 e2 hi1 hi2
        go_upto_region 6 with fail
        rw [and7 (by omega) (by omega), and1 (by omega) (by omega), and15 (by omega) (by omega)]
        have w1 : RowKit.wrap64 (ck / 32 % 8) = ck / 32 % 8 := by unfold RowKit.wrap64; omega
        have w2' : RowKit.wrap64 (ck % 16) = ck % 16 := by unfold RowKit.wrap64; omega
        rw [w1, w2']
        clear w1 w2'
        refine wp_gn (fun W3 hW3 => ?_)
        have z5 := (Below.heap_alloc w5 (.cells #[.int .i64 (ck / 32 % 8), .bool (ck / 16 % 2 == 1), .int .i64 (ck % 16)] 116) (w.heap.size + 4) (by have := SZ5.out; rw [SZ.out] at this; omega)).trans V5.out
        have zn := (MapKept.heap_alloc w5 (.cells #[.int .i64 (ck / 32 % 8), .bool (ck / 16 % 2 == 1), .int .i64 (ck % 16)] 116)).1
        have k3 : Keeps [] w5 W3 := by rw [hW3]; exact (Keeps.refl _ _).alloc' _
        rw [← hW3] at z5 zn
        have HW3 := Lib.hid hW3
        have KW3 := Lib.hid (KW.out.trans (K5.out.trans k3))
        have Z5 := Lib.hid z5
        have ZN := Lib.hid zn
        have m0 := cell_of_block zn 0
        have m1 := cell_of_block zn 1
        have m2 := cell_of_block zn 2
        have f2 := free_of_block zn 2
        have fr0 := free_of_block z5 0
        have fr1 := free_of_block z5 1
        have fr2 := free_of_block z5 2
        have r0 := cell_of_block z5 0
        have r1 := cell_of_block z5 1
        have r2 := cell_of_block z5 2
        simp at m0 m1 m2 r0 r1 r2
        clear c4 hW3 k3 z5 zn
        by_cases h15 : ck % 16 = 15
        · have hne : ¬ w.heap.size + 4 = w5.heap.size := by have := SZ5.out; rw [SZ.out] at this; omega
          have hb : (ck % 16 == 15) = true := by rw [h15]; rfl
          go_upto_region 8 with fail
          refine wp_gn (fun W4 hW4 => ?_)
          have z4 := (Below.heap_setCell W3 ⟨w5.heap.size, 2, none⟩ (.int .i64 (-1)) (w.heap.size + 4) hne).trans Z5.out
          have n4 := heap_setCell_self ZN.out 2 (.int .i64 (-1))
          rw [← hW4] at z4 n4
          have KW4 := Lib.hid (show Keeps [] w W4 by rw [hW4]; exact KW3.out.setCell' (p := ⟨w5.heap.size, 2, none⟩) (Or.inl (by simp; have := SZ5.out; rw [SZ.out] at this; omega)) _)
          clear hW4 m0 m1 m2 f2 fr0 fr1 fr2 r0 r1 r2
          have m0 := cell_of_block n4 0
          have m1 := cell_of_block n4 1
          have m2 := cell_of_block n4 2
          have fr0 := free_of_block z4 0
          have fr1 := free_of_block z4 1
          have fr2 := free_of_block z4 2
          have r0 := cell_of_block z4 0
          have r1 := cell_of_block z4 1
          have r2 := cell_of_block z4 2
          simp at m0 m1 m2 r0 r1 r2
          clear z4 n4
          go_wp2_with fail
          refine bodyPost_ret (v := .tuple #[.agg #[.int .i64 (ck / 32 % 8), .bool (ck / 16 % 2 == 1), .int .i64 (-1)], .int .i64 0]) (by simp [results, Tryz.results53, go_sem, r0, r1, r2]) rfl ⟨?_, ?_⟩
          · rw [E1.out, E2.out]
            simp [infV, told, h15]
          · exact ((KW4.out.setCell' (p := ⟨w.heap.size + 4, 0, none⟩) (Or.inl (by simp)) _).setCell' (p := ⟨w.heap.size + 4, 1, none⟩) (Or.inl (by simp)) _).setCell' (p := ⟨w.heap.size + 4, 2, none⟩) (Or.inl (by simp)) _
        · have hb : (ck % 16 == 15) = false := by simpa using h15
          go_upto_region 8 with fail
          go_wp2_with fail
          refine bodyPost_ret (v := .tuple #[.agg #[.int .i64 (ck / 32 % 8), .bool (ck / 16 % 2 == 1), .int .i64 (ck % 16)], .int .i64 0]) (by simp [results, Tryz.results53, go_sem, r0, r1, r2]) rfl ⟨?_, ?_⟩
          · rw [E1.out, E2.out]
            simp [infV, told, h15]
          · exact ((KW3.out.setCell' (p := ⟨w.heap.size + 4, 0, none⟩) (Or.inl (by simp)) _).setCell' (p := ⟨w.heap.size + 4, 1, none⟩) (Or.inl (by simp)) _).setCell' (p := ⟨w.heap.size + 4, 2, none⟩) (Or.inl (by simp)) _
      | false =>
        obtain ⟨e1, e2⟩ := HN.out (by rw [HF.out, hi1, hi2]; simp)
        have E1 := Lib.hid e1
        have E2 := Lib.hid e2
        have fr0 := free_of_block V5.out 0
        have fr1 := free_of_block V5.out 1
        have fr2 := free_of_block V5.out 2
        have r0 := cell_of_block V5.out 0
        have r1 := cell_of_block V5.out 1
        have r2 := cell_of_block V5.out 2
        simp at r0 r1 r2
        clear e1 e2 hi1 hi2 htz
        go_wp2_with fail
        refine bodyPost_ret (v := .tuple #[.agg #[.int .i64 0, .bool false, .int .i64 0], .int .i64 25]) (by simp [results, Tryz.results53, go_sem, r0, r1, r2]) rfl ⟨?_, ?_⟩
        · rw [E1.out, E2.out]
          rfl
        · exact (((KW.out.trans K5.out).setCell' (p := ⟨w.heap.size + 4, 0, none⟩) (Or.inl (by simp)) _).setCell' (p := ⟨w.heap.size + 4, 1, none⟩) (Or.inl (by simp)) _).setCell' (p := ⟨w.heap.size + 4, 2, none⟩) (Or.inl (by simp)) _
end Go.Proofs.YtocnkiojlifgpaaGreatDoor
