/-
  The walks of package opts: options that are found. Condition: numbers are in the ranges of their kinds.
-/
import Derived.Test.YtakgohocimlagaaGreatOpt
import Derived.Deep.LoopGhost
namespace Go.Proofs.YtakgohocimlagaaGreat
open Go.RowKit
set_option linter.unusedVariables false
set_option linter.unusedSimpArgs false

theorem keeps_cell0 {w : World} {o : Obj} {a : Addr} {v : Value} (h : w.cell? a = some v) : (w.alloc o).cell? a = some v := cell_keeps (Keeps.alloc [] w o) h (by simp)
abbrev O := UInt8 × List UInt8
/-- THE SLICE VALUE v READS AS THE OPTIONS os. -/
def OptsV (w : World) (v : Value) (os : List O) : Prop :=
  ∃ A c, v = .slice A os.length c ∧ os.length ≤ c ∧ c ≤ maxLen ∧ (0 < os.length → ∃ g o, A = some ⟨g, o, none⟩ ∧ ∀ i x, os[i]? = some x → ∃ B m, w.cell? ⟨g, o + i * 2, none⟩ = some (u8V x.1) ∧ w.cell? ⟨g, o + i * 2 + 1, none⟩ = some (.slice B x.2.length m) ∧ BytesV w (.slice B x.2.length m) x.2)

theorem OptsV.keep0 {w w' : World} {v : Value} {os : List O} (h : OptsV w v os) (k : Keeps [] w w') : OptsV w' v os := by
  obtain ⟨A, c, rfl, h1, h2, h3⟩ := h
  refine ⟨A, c, rfl, h1, h2, fun hp => ?_⟩
  obtain ⟨g, o, rfl, hc⟩ := h3 hp
  refine ⟨g, o, rfl, fun i x hx => ?_⟩
  obtain ⟨B, m, r1, r2, r3⟩ := hc i x hx
  exact ⟨B, m, cell_keeps k r1 (by simp), cell_keeps k r2 (by simp), r3.keep0 k⟩
theorem OptsV.keep {w w' : World} {v : Value} {os : List O} {b : Nat} (h : OptsV w v os) (k : Keeps [b] w w') (hb : NoU8 w b) : OptsV w' v os := by
  obtain ⟨A, c, rfl, h1, h2, h3⟩ := h
  refine ⟨A, c, rfl, h1, h2, fun hp => ?_⟩
  obtain ⟨g, o, rfl, hc⟩ := h3 hp
  refine ⟨g, o, rfl, fun i x hx => ?_⟩
  obtain ⟨B, m, r1, r2, r3⟩ := hc i x hx
  have hg : g ≠ b := by rintro rfl; exact hb _ _ r1
  exact ⟨B, m, cell_keeps k r1 (by simpa using hg), cell_keeps k r2 (by simpa using hg), r3.keep k hb⟩
theorem OptsV.nil (w : World) : OptsV w (.slice none 0 0) [] := ⟨none, 0, rfl, Nat.le_refl _, by simp [maxLen], fun h => by simp at h⟩

set_option maxHeartbeats 400000 in
theorem just1_any (w : World) (b : Nat) (n want : Int) (q : w.cell? ⟨b, 0, none⟩ = some (.int .i64 want)) :
    Calls Tryz.prog 103 #[.int .i64 n, .pointer (some ⟨b, 0, none⟩)] w fun e w' => e = .returned (.bool (n == want)) ∧ w = w' := by
  go_enter Tryz.func103, Tryz.ntmps103
  go_wp2
  go_ret
  exact ⟨rfl, rfl⟩

set_option maxHeartbeats 400000 in
theorem just_any (w : World) (want : Int) :
    Calls Tryz.prog 96 #[.int .i64 want] w fun e w' => e = .returned (.func (Fn.func 103) #[] #[.pointer (some ⟨w.heap.size, 0, none⟩)]) ∧ w' = w.alloc (.cells #[.int .i64 want] 3) := by
  go_enter Tryz.func96, Tryz.ntmps96
  go_wp2
  go_ret
  exact ⟨rfl, rfl⟩

def isOpt (k : UInt8) (want : Nat) (x : O) : Bool := x.1 == k && x.2.length == want
theorem isOpt_kind {k : UInt8} {want : Nat} {x : O} (h : ((x.1.toNat : Int) == (k.toNat : Int)) = false) : isOpt k want x = false := by
  unfold isOpt
  rw [Bool.and_eq_false_iff]
  left
  simp at h ⊢
  intro e; rw [e] at h; exact h rfl
theorem isOpt_len {k : UInt8} {want : Nat} {x : O} (h : ((x.1.toNat : Int) == (k.toNat : Int)) = true) : isOpt k want x = ((x.2.length : Int) == (want : Int)) := by
  unfold isOpt
  have : x.1 = k := by simp at h; exact UInt8.toNat_inj.1 (by omega)
  rw [this]
  simp
  rw [Bool.eq_iff_iff]; simp
  omega

set_option maxHeartbeats 400000 in
theorem find1_any (w : World) (b0 b1 b2 : Nat) (x : O) (B : Option Addr) (m : Nat) (k : UInt8) (want : Nat) (q0 : w.cell? ⟨b0, 0, none⟩ = some (.int .i64 want)) (q1 : w.cell? ⟨b1, 0, none⟩ = some (.int .u8 k.toNat)) (q2 : w.cell? ⟨b2, 0, none⟩ = some (.func (Fn.func 103) #[] #[.pointer (some ⟨b0, 0, none⟩)])) :
    Calls Tryz.prog 102 #[.agg #[.int .u8 x.1.toNat, .slice B x.2.length m], .pointer (some ⟨b1, 0, none⟩), .pointer (some ⟨b2, 0, none⟩)] w fun e w' => e = .returned (.bool (isOpt k want x)) ∧ Keeps [] w w' := by
  have p0 := keeps_cell0 (o := .cells #[.int .u8 x.1.toNat, .slice B x.2.length m] 60) q0
  have p1 := keeps_cell0 (o := .cells #[.int .u8 x.1.toNat, .slice B x.2.length m] 60) q1
  have p2 := keeps_cell0 (o := .cells #[.int .u8 x.1.toNat, .slice B x.2.length m] 60) q2
  clear q0 q1 q2
  cases h : ((x.1.toNat : Int) == (k.toNat : Int))
  · have F := Lib.hid (isOpt_kind (want := want) h)
    go_enter Tryz.func102, Tryz.ntmps102
    go_wp2_with fail
    go_ret
    exact ⟨ret_b F.out.symm, (Keeps.refl _ _).alloc' _⟩
  · have F := Lib.hid (isOpt_len (want := want) h)
    go_enter Tryz.func102, Tryz.ntmps102
    go_wp2_with fail
    refine (just1_any _ b0 x.2.length want p0).mono ?_
    rintro e w' ⟨rfl, rfl⟩
    go_wp2_with fail
    go_ret
    exact ⟨ret_b F.out.symm, (Keeps.refl _ _).alloc' _⟩

def ixI : Option Nat → Int
  | some i => i
  | none => -1
def optIx (os : List O) (k : UInt8) (want : Nat) : Option Nat := os.findIdx? (isOpt k want)

set_option maxRecDepth 100000 in
set_option maxHeartbeats 1000000 in
theorem indexFunc_any (w : World) (A : Option Addr) (n c : Nat) (os : List O) (b0 b1 b2 : Nat) (k : UInt8) (want : Nat) (h : OptsV w (.slice A n c) os) (q0 : w.cell? ⟨b0, 0, none⟩ = some (.int .i64 want)) (q1 : w.cell? ⟨b1, 0, none⟩ = some (.int .u8 k.toNat)) (q2 : w.cell? ⟨b2, 0, none⟩ = some (.func (Fn.func 103) #[] #[.pointer (some ⟨b0, 0, none⟩)])) :
    Calls Tryz.prog 88 #[.slice A n c, .func (Fn.func 102) #[] #[.pointer (some ⟨b1, 0, none⟩), .pointer (some ⟨b2, 0, none⟩)]] w fun e w' => e = .returned (.int .i64 (ixI (optIx os k want))) ∧ Keeps [] w w' := by
  obtain ⟨A', c', he, hc1, hc2, hat⟩ := h
  injection he with e1 e2 e3
  subst e1 e2 e3
  have HAT := Lib.hid hat
  unfold maxLen at hc2
  clear hat
  go_enter Tryz.func88, Tryz.ntmps88
  go_wp2_with fail
  go_loopw [8, 5] (fun i _ wr => ∃ j : Nat, j ≤ os.length ∧ i = .int .i64 j ∧ Keeps [] w wr ∧ Hid (∀ t, t < j → ∀ x, os[t]? = some x → isOpt k want x = false)) (fun i _ _ => os.length - (intOf i).toNat)
  case atStart => exact ⟨0, Nat.zero_le _, rfl, Keeps.refl _ _, Lib.hid (fun t ht => by omega)⟩
  case round =>
    obtain ⟨j, hj, rfl, kw, HB⟩ := hrel
    have d0 := cell_keeps kw q0 (by simp)
    have d1 := cell_keeps kw q1 (by simp)
    have d2 := cell_keeps kw q2 (by simp)
    have KW := Lib.hid kw
    clear q0 q1 q2 kw
    by_cases hlt : j < os.length
    · obtain ⟨g, o, rfl, hall⟩ := HAT.out (by omega)
      obtain ⟨B, m, r1, r2, _⟩ := hall j os[j] (List.getElem?_eq_getElem hlt)
      have r1' := cell_keeps KW.out r1 (by simp)
      have r2' := cell_keeps KW.out r2 (by simp)
      have HX := Lib.hid (List.getElem?_eq_getElem hlt)
      unfold u8V at r1'
      clear hall r1 r2
      generalize os[j] = x at *
      have cf := find1_any wr b0 b1 b2 x B m k want d0 d1 d2
      have CF := Lib.hid cf
      clear cf d0 d1 d2
      cases hm : isOpt k want x
      all_goals
        have CF2 := CF.out
        rw [hm] at CF2
        have HM := Lib.hid hm
        have CG := Lib.hid CF2
        clear CF2 CF hm
        go_wp2_with fail
        refine CG.out.mono ?_
        rintro e w2 ⟨rfl, k2⟩
        have K2 := Lib.hid k2
        clear k2 CG
        go_wp2_with fail
      · go_roundw
        case rel =>
          refine ⟨j + 1, by omega, by go_num, KW.out.trans K2.out, Lib.hid (fun t ht y hy => ?_)⟩
          by_cases htj : t = j
          · subst htj
            rw [HX.out] at hy
            cases hy
            exact HM.out
          · exact HB.out t (by omega) y hy
        case measure => simp [intOf]; omega
      · go_ret
        refine ⟨ret_i ?_, KW.out.trans K2.out⟩
        have : optIx os k want = some j := by
          unfold optIx
          rw [List.findIdx?_eq_some_iff_getElem]
          have hx := HX.out
          rw [List.getElem?_eq_getElem hlt] at hx
          refine ⟨hlt, by rw [Option.some.inj hx]; exact HM.out, fun t ht => ?_⟩
          rw [HB.out t ht os[t] (List.getElem?_eq_getElem (by omega))]
          simp
        rw [this]; rfl
    · go_wp2_with fail
      go_ret
      refine ⟨ret_i ?_, KW.out⟩
      have : optIx os k want = none := by
        unfold optIx
        rw [List.findIdx?_eq_none_iff]
        intro x hx
        obtain ⟨t, ht, rfl⟩ := List.mem_iff_getElem.1 hx
        exact HB.out t (by omega) _ (List.getElem?_eq_getElem ht)
      rw [this]; rfl

/-- The data of the first option of a kind whose length is so. -/
def findO (os : List O) (k : UInt8) (want : Nat) : Option (List UInt8) := (os.find? (isOpt k want)).map (·.2)

set_option maxRecDepth 100000 in
set_option maxHeartbeats 1000000 in
theorem find_some (w : World) (A : Option Addr) (n c : Nat) (os : List O) (k : UInt8) (want b0 : Nat) (h : OptsV w (.slice A n c) os) (q0 : w.cell? ⟨b0, 0, none⟩ = some (.int .i64 want)) (l : List UInt8) (hf : findO os k want = some l) :
    Calls Tryz.prog 95 #[.slice A n c, .int .u8 k.toNat, .func (Fn.func 103) #[] #[.pointer (some ⟨b0, 0, none⟩)]] w fun e w' => ∃ B m, e = .returned (.tuple #[.slice B want m, .bool true]) ∧ BytesV w' (.slice B want m) l ∧ l.length = want ∧ Keeps [] w w' := by
  have H := Lib.hid h
  obtain ⟨A', c', he, hc1, hc2, hat⟩ := h
  injection he with e1 e2 e3
  subst e1 e2 e3
  unfold findO at hf
  obtain ⟨x, hx, rfl⟩ := Option.map_eq_some_iff.1 hf
  have hix : ∃ j, optIx os k want = some j ∧ os[j]? = some x ∧ isOpt k want x = true := by
    obtain ⟨h1, xs, ys, hos, h2⟩ := List.find?_eq_some_iff_append.1 hx
    refine ⟨xs.length, ?_, by rw [hos]; simp, h1⟩
    unfold optIx
    rw [List.findIdx?_eq_some_iff_getElem]
    refine ⟨by rw [hos]; simp, by simp [hos, h1], fun t ht => ?_⟩
    have hm : os[t]'(by rw [hos]; simp; omega) = xs[t] := by simp [hos, ht]
    rw [hm]
    have := h2 xs[t] (List.getElem_mem ht)
    simpa using this
  obtain ⟨j, hj, hxj, hm⟩ := hix
  have hjl := (List.getElem?_eq_some_iff.1 hxj).1
  obtain ⟨g, o, rfl, hall⟩ := hat (by omega)
  obtain ⟨B, m, r1, r2, r3⟩ := hall j x hxj
  have hlen : x.2.length = want := by unfold isOpt at hm; simp at hm; exact hm.2
  rw [hlen] at r2 r3
  have HL := Lib.hid hlen
  have R3 := Lib.hid r3
  clear hall r1 r3 hm hxj hx hf hat hlen
  have p0 := keeps_cell0 (o := .cells #[.func (Fn.func 103) #[] #[.pointer (some ⟨b0, 0, none⟩)]] 119) (keeps_cell0 (o := .cells #[.int .u8 k.toNat] 5) q0)
  have ci := indexFunc_any ((w.alloc (.cells #[.int .u8 k.toNat] 5)).alloc (.cells #[.func (Fn.func 103) #[] #[.pointer (some ⟨b0, 0, none⟩)]] 119)) (some ⟨g, o, none⟩) os.length c os b0 w.heap.size (w.heap.size + 1) k want (H.out.keep0 (((Keeps.refl _ _).alloc' _).alloc' _)) p0 (by simp) (by simp)
  rw [hj] at ci
  have CI := Lib.hid ci
  unfold maxLen at hc2
  clear ci p0 hj H q0
  go_enter Tryz.func95, Tryz.ntmps95
  go_wp2_with fail
  refine CI.out.mono ?_
  rintro e w2 ⟨rfl, k2⟩
  have kw : Keeps [] w w2 := (((Keeps.refl _ _).alloc' _).alloc' _).trans k2
  have r2' := cell_keeps kw r2 (by simp)
  have KW := Lib.hid kw
  clear k2 kw r2
  rw [show ixI (some j) = (j : Int) from rfl]
  go_wp2_with fail
  go_ret2
  exact ⟨B, m, rfl, R3.out.keep0 KW.out, HL.out, KW.out⟩

set_option maxRecDepth 100000 in
set_option maxHeartbeats 1000000 in
theorem find_none (w : World) (A : Option Addr) (n c : Nat) (os : List O) (k : UInt8) (want b0 : Nat) (h : OptsV w (.slice A n c) os) (q0 : w.cell? ⟨b0, 0, none⟩ = some (.int .i64 want)) (hf : findO os k want = none) :
    Calls Tryz.prog 95 #[.slice A n c, .int .u8 k.toNat, .func (Fn.func 103) #[] #[.pointer (some ⟨b0, 0, none⟩)]] w fun e w' => e = .returned (.tuple #[.slice none 0 0, .bool false]) ∧ Keeps [] w w' := by
  have hj : optIx os k want = none := by
    unfold findO at hf
    unfold optIx
    rw [Option.map_eq_none_iff, List.find?_eq_none] at hf
    rw [List.findIdx?_eq_none_iff]
    intro x hx
    have := hf x hx
    simpa using this
  have p0 := keeps_cell0 (o := .cells #[.func (Fn.func 103) #[] #[.pointer (some ⟨b0, 0, none⟩)]] 119) (keeps_cell0 (o := .cells #[.int .u8 k.toNat] 5) q0)
  have ci := indexFunc_any ((w.alloc (.cells #[.int .u8 k.toNat] 5)).alloc (.cells #[.func (Fn.func 103) #[] #[.pointer (some ⟨b0, 0, none⟩)]] 119)) A n c os b0 w.heap.size (w.heap.size + 1) k want (h.keep0 (((Keeps.refl _ _).alloc' _).alloc' _)) p0 (by simp) (by simp)
  rw [hj] at ci
  have CI := Lib.hid ci
  clear ci p0 hj q0 hf h
  go_enter Tryz.func95, Tryz.ntmps95
  go_wp2_with fail
  refine CI.out.mono ?_
  rintro e w2 ⟨rfl, k2⟩
  have KW := Lib.hid ((((Keeps.refl [] w).alloc' _).alloc' _).trans k2)
  clear k2
  rw [show ixI none = (-1 : Int) from rfl]
  go_wp2_with fail
  go_ret2
  exact ⟨rfl, KW.out⟩

theorem or16 (a b : UInt8) : bits .or .u16 ((a.toNat : Int) * 256) b.toNat = (a.toNat : Int) * 256 + b.toNat := by
  have ha := a.toNat_lt
  have hb := b.toNat_lt
  rw [u16_or _ _ (by omega) (by omega) (by omega) (by omega), nat_join 8 _ _ (by omega) (by omega)]
  omega
def mssO (os : List O) : Option (List UInt8) := findO os 2 2
def mssI : Option (List UInt8) → Int × Bool
  | some [a, b] => (a.toNat * 256 + b.toNat, true)
  | _ => (0, false)
def scaleI : Option (List UInt8) → Int × Bool
  | some [a] => (min (a.toNat : Int) 14, true)
  | _ => (0, false)
theorem len2 {l : List UInt8} (h : l.length = 2) : ∃ a b, l = [a, b] := by
  match l, h with
  | [a, b], _ => exact ⟨a, b, rfl⟩
theorem len1 {l : List UInt8} (h : l.length = 1) : ∃ a, l = [a] := by
  match l, h with
  | [a], _ => exact ⟨a, rfl⟩
theorem u8_lt (x : UInt8) : (0 : Int) ≤ x.toNat ∧ (x.toNat : Int) ≤ 255 := by have := x.toNat_lt; omega
theorem mssI_bd (o : Option (List UInt8)) : 0 ≤ (mssI o).1 ∧ (mssI o).1 ≤ 65535 := by
  unfold mssI
  split
  · rename_i a b
    have := u8_lt a; have := u8_lt b
    simp only; omega
  · simp
theorem scaleI_bd (o : Option (List UInt8)) : 0 ≤ (scaleI o).1 ∧ (scaleI o).1 ≤ 14 := by
  unfold scaleI
  split
  · rename_i a
    have := u8_lt a
    simp only; omega
  · simp

set_option maxRecDepth 100000 in
set_option maxHeartbeats 1000000 in
theorem mss_any (w : World) (A : Option Addr) (n c : Nat) (os : List O) (h : OptsV w (.slice A n c) os) :
    Calls Tryz.prog 70 #[.slice A n c] w fun e w' => e = .returned (.tuple #[.int .u16 (mssI (findO os 2 2)).1, .bool (mssI (findO os 2 2)).2]) ∧ Keeps [] w w' := by
  have h1 := h.keep0 (Keeps.alloc [] w (.cells #[.int .i64 2] 3))
  cases hf : findO os 2 2 with
  | none =>
    have cf := find_none (w.alloc (.cells #[.int .i64 2] 3)) A n c os 2 2 w.heap.size h1 (by simp) hf
    have CF := Lib.hid cf
    clear h1 hf h cf
    go_enter Tryz.func70, Tryz.ntmps70
    go_wp2_with fail
    refine (just_any _ 2).mono ?_
    rintro e w1 ⟨rfl, rfl⟩
    go_wp2_with fail
    refine CF.out.mono ?_
    rintro e w1 ⟨rfl, k1⟩
    have K1 := Lib.hid k1
    clear k1
    go_wp2_with fail
    go_ret2
    exact ⟨rfl, (Keeps.alloc [] w _).trans K1.out⟩
  | some l =>
    have cf := find_some (w.alloc (.cells #[.int .i64 2] 3)) A n c os 2 2 w.heap.size h1 (by simp) l hf
    have CF := Lib.hid cf
    clear h1 hf h cf
    go_enter Tryz.func70, Tryz.ntmps70
    go_wp2_with fail
    refine (just_any _ 2).mono ?_
    rintro e w1 ⟨rfl, rfl⟩
    go_wp2_with fail
    refine CF.out.mono ?_
    rintro e w1 ⟨B, m, rfl, b1, hl, k1⟩
    obtain ⟨g, o, rfl, hc⟩ := b1.get (by omega)
    obtain ⟨a, b, rfl⟩ := len2 hl
    have r0 := hc 0 a rfl
    have r1 := hc 1 b rfl
    have ra := u8_lt a
    have rb := u8_lt b
    have hm := b1.form
    unfold u8V at r0 r1
    simp only [Nat.add_zero] at r0
    have K1 := Lib.hid k1
    clear k1 hc b1 hm CF hl
    go_wp2_with fail
    go_quiet (fail)
    go_wp2_with fail
    go_ret2
    refine ⟨?_, ((Keeps.alloc [] w _).trans K1.out).trans (Keeps.drewN _ _ _)⟩
    show _ = Ending.returned (.tuple #[.int .u16 (a.toNat * 256 + b.toNat), .bool true])
    rw [← or16 a b]
    rfl

set_option maxRecDepth 100000 in
set_option maxHeartbeats 1000000 in
theorem scale_any (w : World) (A : Option Addr) (n c : Nat) (os : List O) (h : OptsV w (.slice A n c) os) :
    Calls Tryz.prog 71 #[.slice A n c] w fun e w' => e = .returned (.tuple #[.int .i64 (scaleI (findO os 3 1)).1, .bool (scaleI (findO os 3 1)).2]) ∧ Keeps [] w w' := by
  have h1 := h.keep0 (Keeps.alloc [] w (.cells #[.int .i64 1] 3))
  cases hf : findO os 3 1 with
  | none =>
    have cf := find_none (w.alloc (.cells #[.int .i64 1] 3)) A n c os 3 1 w.heap.size h1 (by simp) hf
    have CF := Lib.hid cf
    clear h1 hf h cf
    go_enter Tryz.func71, Tryz.ntmps71
    go_wp2_with fail
    refine (just_any _ 1).mono ?_
    rintro e w1 ⟨rfl, rfl⟩
    go_wp2_with fail
    refine CF.out.mono ?_
    rintro e w1 ⟨rfl, k1⟩
    have K1 := Lib.hid k1
    clear k1
    go_wp2_with fail
    go_ret2
    exact ⟨rfl, (Keeps.alloc [] w _).trans K1.out⟩
  | some l =>
    have cf := find_some (w.alloc (.cells #[.int .i64 1] 3)) A n c os 3 1 w.heap.size h1 (by simp) l hf
    have CF := Lib.hid cf
    clear h1 hf h cf
    go_enter Tryz.func71, Tryz.ntmps71
    go_wp2_with fail
    refine (just_any _ 1).mono ?_
    rintro e w1 ⟨rfl, rfl⟩
    go_wp2_with fail
    refine CF.out.mono ?_
    rintro e w1 ⟨B, m, rfl, b1, hl, k1⟩
    obtain ⟨g, o, rfl, hc⟩ := b1.get (by omega)
    obtain ⟨a, rfl⟩ := len1 hl
    have r0 := hc 0 a rfl
    have ra := u8_lt a
    unfold u8V at r0
    simp only [Nat.add_zero] at r0
    have K1 := Lib.hid k1
    clear k1 hc b1 CF hl
    rcases Int.lt_or_le 14 a.toNat with hlt | hle
    · have F := Lib.hid (show scaleI (some [a]) = (14, true) by simp only [scaleI, Prod.mk.injEq, and_true]; omega)
      go_wp2_with fail
      go_ret2
      rw [F.out]
      exact ⟨rfl, (Keeps.alloc [] w _).trans K1.out⟩
    · have F := Lib.hid (show scaleI (some [a]) = ((a.toNat : Int), true) by simp only [scaleI, Prod.mk.injEq, and_true]; omega)
      go_wp2_with fail
      go_ret2
      rw [F.out]
      exact ⟨rfl, (Keeps.alloc [] w _).trans K1.out⟩

set_option maxRecDepth 100000 in
set_option maxHeartbeats 1000000 in
theorem sackOk_any (w : World) (A : Option Addr) (n c : Nat) (os : List O) (h : OptsV w (.slice A n c) os) :
    Calls Tryz.prog 72 #[.slice A n c] w fun e w' => e = .returned (.bool (findO os 4 0).isSome) ∧ Keeps [] w w' := by
  have h1 := h.keep0 (Keeps.alloc [] w (.cells #[.int .i64 0] 3))
  cases hf : findO os 4 0 with
  | none =>
    have cf := find_none (w.alloc (.cells #[.int .i64 0] 3)) A n c os 4 0 w.heap.size h1 (by simp) hf
    have CF := Lib.hid cf
    clear h1 hf h cf
    go_enter Tryz.func72, Tryz.ntmps72
    go_wp2_with fail
    refine (just_any _ 0).mono ?_
    rintro e w1 ⟨rfl, rfl⟩
    go_wp2_with fail
    refine CF.out.mono ?_
    rintro e w1 ⟨rfl, k1⟩
    have K1 := Lib.hid k1
    clear k1
    go_wp2_with fail
    go_ret
    exact ⟨rfl, (Keeps.alloc [] w _).trans K1.out⟩
  | some l =>
    have cf := find_some (w.alloc (.cells #[.int .i64 0] 3)) A n c os 4 0 w.heap.size h1 (by simp) l hf
    have CF := Lib.hid cf
    clear h1 hf h cf
    go_enter Tryz.func72, Tryz.ntmps72
    go_wp2_with fail
    refine (just_any _ 0).mono ?_
    rintro e w1 ⟨rfl, rfl⟩
    go_wp2_with fail
    refine CF.out.mono ?_
    rintro e w1 ⟨B, m, rfl, b1, hl, k1⟩
    have K1 := Lib.hid k1
    clear k1 b1 CF hl
    go_wp2_with fail
    go_ret
    exact ⟨rfl, (Keeps.alloc [] w _).trans K1.out⟩
end Go.Proofs.YtakgohocimlagaaGreat
