/-
  The walk of tls.Hello where it ends well. Condition: the library's variables lie as listed; the arguments may be.
-/
import Derived.Test.YtpoheemjdieogaaGreatDoorFoldQ
import Derived.Test.YtpoheemjdieogaaGreatDoorTlsH
import Derived.Deep.Cut
namespace Go.Proofs.YtpoheemjdieogaaGreatDoor
open Go.RowKit Go.Lib Go.Shelf
set_option linter.unusedVariables false
set_option linter.unusedSimpArgs false

/-- ints of a slice -/
def IntsV (w : World) (A : Option Addr) (n c : Nat) (l : List Int) : Prop :=
  l.length = n ∧ n ≤ c ∧ c ≤ maxLen ∧ (0 < n → ∃ g o, A = some ⟨g, o, none⟩ ∧ ∀ i z, l[i]? = some z → w.cell? ⟨g, o + i, none⟩ = some (.int .i64 z))
theorem IntsV.keep0 {w w' : World} {A : Option Addr} {n c : Nat} {l : List Int} (h : IntsV w A n c l) (k : Keeps [] w w') : IntsV w' A n c l := by
  refine ⟨h.1, h.2.1, h.2.2.1, fun hp => ?_⟩
  obtain ⟨g, o, h1, h2⟩ := h.2.2.2 hp
  exact ⟨g, o, h1, fun i z hz => cell_keeps k (h2 i z hz) (by simp)⟩
def lowQ (z : Int) : Bool := decide (z < 1)
set_option maxRecDepth 100000 in
theorem low_any (w : World) (z : Int) : Calls Tryz.prog 46 #[.int .i64 z] w fun e w' => e = .returned (.bool (lowQ z)) ∧ w' = w := by
  unfold lowQ
  go_enter Tryz.func46, Tryz.ntmps46
  go_wp2_with fail
  go_ret
  exact ⟨rfl, rfl⟩
set_option maxRecDepth 100000 in
theorem lows_any (w : World) (A : Option Addr) (n c : Nat) (l : List Int) (h : IntsV w A n c l) (hn : n ≤ 100000) : Calls Tryz.prog 45 #[.slice A n c, .func (.func 46) #[] #[]] w fun e w' => e = .returned (.bool (l.any lowQ)) ∧ Keeps [] w w' := by
  rcases Nat.eq_zero_or_pos n with h0 | h0
  · subst h0
    have hl : l = [] := List.eq_nil_of_length_eq_zero h.1
    subst hl
    refine (AnyE.slices_ContainsFunc_empty Tryz.cfiL A c _ w).mono ?_
    rintro e w' ⟨rfl, rfl⟩
    exact ⟨rfl, Keeps.refl _ _⟩
  · obtain ⟨g, o, rfl, hc⟩ := h.2.2.2 h0
    refine (AnyE.slices_ContainsFunc Tryz.cfiL (fun z : Int => .int .i64 z) lowQ 46 #[] (enters_of Tryz.func46 (by kernel_rfl) rfl) g o n c l w (fun W x _ => (low_any W x).mono fun e w' ⟨h1, h2⟩ => ⟨h1, 0, h2⟩) (by rw [h.1]; exact Nat.le_refl _) (by omega) (fun j hj => hc j _ (by rw [List.getElem?_eq_getElem hj, getElem!_pos l j hj]))).mono ?_
    rintro e w' ⟨rfl, q, rfl⟩
    refine ⟨?_, Keeps.drewN [] w q⟩
    rw [List.take_of_length_le (by rw [h.1]; exact Nat.le_refl _)]
/-- what stands beside, and the name -/
def extB (name : List UInt8) (before behind : List UInt8) : List UInt8 :=
  [0, 16] ++ withL before ++ (if name = [] then [] else [0, 0] ++ withL (withL ([0] ++ withL name))) ++ [0, 21] ++ withL behind
def bodyB (name before behind : List UInt8) : List UInt8 := [3, 3] ++ List.replicate 33 0 ++ [0, 2, 0, 47, 1, 0] ++ withL (extB name before behind)
def allB (name before behind : List UInt8) : List UInt8 := [1, 0] ++ u16L (bodyB name before behind).length ++ bodyB name before behind
/-- how long a part may be -/
def sizeAt (parts : List Int) (i : Nat) : Nat := if parts = [] then 16384 else (min (parts.getD (min i (parts.length - 1)) 1) 16384).toNat
/-- the records -/
def recG : Nat → List Int → Nat → List UInt8 → List UInt8 → List UInt8
  | 0, _, _, out, _ => out
  | k + 1, parts, i, out, all => if all = [] then out else
    recG k parts (i + 1) (out ++ [22, 3, 1] ++ u16L (min (sizeAt parts i) all.length) ++ all.take (min (sizeAt parts i) all.length)) (all.drop (min (sizeAt parts i) all.length))
def recsL (parts : List Int) (all : List UInt8) : List UInt8 := recG all.length parts 0 [] all
def helloB (name before behind : List UInt8) (parts : List Int) : List UInt8 := recsL parts (allB name before behind)
theorem zeros33 : (Builtin.zeroCells #[Value.int .u8 0] 33).toList = (List.replicate 33 (0 : UInt8)).map u8V := by
  simp [Builtin.zeroCells]
  rfl
set_option maxRecDepth 100000 in
theorem app_Z {w : World} {ops : Array Oper} {rest : List Oper} {o : Oper} {a : Act} {Q : Exit → Act → World → Prop} (hg : o.guard = none) (s : Operand) (w0 : World) (kw : Keeps [] w0 w)
    (ho : o.op = .call { callee := .builtin .append, args := #[s, .const (.int .i64 33)], argTypes := #[22, 3] })
    (g : Nat) (hs : a.eval s = .slice (some ⟨g, 0, none⟩) 2 2) (hc0 : w.cell? ⟨g, 0, none⟩ = some (.int .u8 3)) (hc1 : w.cell? ⟨g, 1, none⟩ = some (.int .u8 3))
    (h : ∀ v' w', OwnB w' w0.heap.size v' ([3, 3] ++ List.replicate 33 0) → Keeps [] w0 w' → wpList Tryz.prog ops Q rest (a.put o.dst v') w') : wpList Tryz.prog ops Q (o :: rest) a w := by
  obtain ⟨i, hi, hz0, hz1, hz2⟩ := info_parts Tryz.infoU8
  have d0 : w.drew.cell? ⟨g, 0, none⟩ = some (.int .u8 3) := hc0
  have d1 : w.drew.cell? ⟨g, 1, none⟩ = some (.int .u8 3) := hc1
  have hold : (Builtin.firstCells i.size 2 (.slice (some ⟨g, 0, none⟩) 2 2)).run Tryz.prog w.drew = .ok ([.int .u8 3, .int .u8 3] : List Value).toArray w.drew := by
    rw [hz1]
    simp [Builtin.firstCells, go_sem, d0, d1]
  have hcap : grownCap w 35 2 5 ≤ maxLen := grownCap_le (by simp [maxLen])
  have hcap2 : 35 ≤ grownCap w 35 2 5 := grownCap_ge w 35 2 _
  have hrun := Lib.run_append_grow_zeros (P := Tryz.prog) w 22 3 o.type 5 i _ .i64 .i64 Tryz.underlying22 Tryz.underlying3 hi hz0 (some ⟨g, 0, none⟩) 2 2 _ hold 33 (by omega) (by omega) (by omega) (by omega) (by omega) (by rw [hz2]; decide)
  refine wpList_plain hg fun K' hK' => ?_
  unfold Oper.wp execOp
  simp only [ho, resolve, invoke, builtin, Sem.run_bind, Sem.run_pure, Result.andThen_ok, List.map_toArray, List.map_cons, List.map_nil, hs, show a.eval (.const (.int .i64 33)) = .int .i64 33 from rfl]
  rw [show ((33 : Nat) : Int) = 33 from rfl] at hrun
  rw [hrun]
  refine hK' _ _ (h _ _ ?_ (kw.drew'.alloc' _))
  refine ⟨by simp, .inr ⟨w.heap.size, _, _, rfl, kw.size, (MapKept.heap_alloc w.drew _).1, hcap2, hcap, ?_, ?_⟩⟩
  · simp [Builtin.zeroCells]
    have : (Value.int .u8 0).cells.size = 1 := rfl
    rw [this]
    omega
  · simp
    refine ⟨rfl, ?_⟩
    have e : (Builtin.zeroCells (Value.int .u8 0).cells 33).toList.length = 33 := by
      have : (Value.int .u8 0).cells.size = 1 := rfl
      simp [Builtin.zeroCells, this]
    rw [List.take_append_of_le_length (by rw [e]; exact Nat.le_refl _), List.take_of_length_le (by rw [e]; exact Nat.le_refl _)]
    exact zeros33
theorem u16_cells4 {n : Nat} (hn : n < 65536) : (#[Value.int .u8 1, .int .u8 0, .int .u8 ((n : Int) / 256), .int .u8 ((n : Int) % 256)] : Array Value).toList = ([1, 0] ++ u16L n).map u8V := by
  rw [List.map_append, ← u16_cells hn]
  rfl
theorem part_pos {parts : List Int} (h : parts.any lowQ = false) {j : Nat} {z : Int} (hz : parts[j]? = some z) : 1 ≤ z := by
  have hm : z ∈ parts := List.mem_of_getElem? hz
  have : lowQ z = false := by
    cases hq : lowQ z with
    | false => rfl
    | true =>
      have : parts.any lowQ = true := List.any_eq_true.2 ⟨z, hm, hq⟩
      rw [h] at this
      cases this
  unfold lowQ at this
  simp at this
  omega
theorem sizeAt_some {parts : List Int} (hp : parts ≠ []) (i : Nat) : ∃ z, parts[min i (parts.length - 1)]? = some z ∧ sizeAt parts i = (min z 16384).toNat := by
  have hl : 0 < parts.length := List.length_pos_iff.2 hp
  refine ⟨_, List.getElem?_eq_getElem (by omega), ?_⟩
  unfold sizeAt
  rw [if_neg hp, List.getD_eq_getElem?_getD, List.getElem?_eq_getElem (by omega)]
  rfl
theorem sizeAt_pos {parts : List Int} (h : parts.any lowQ = false) (i : Nat) : 1 ≤ sizeAt parts i := by
  by_cases hp : parts = []
  · unfold sizeAt
    rw [if_pos hp]
    omega
  · obtain ⟨z, hz, he⟩ := sizeAt_some hp i
    have := part_pos h hz
    omega
theorem recG_fuel {parts : List Int} (h : parts.any lowQ = false) : ∀ (k m i : Nat) (out all : List UInt8), all.length ≤ k → all.length ≤ m → recG k parts i out all = recG m parts i out all
  | 0, 0, i, out, all, _, _ => rfl
  | 0, m + 1, i, out, all, h1, _ => by
    have : all = [] := List.eq_nil_of_length_eq_zero (by omega)
    rw [recG, recG, if_pos this]
  | k + 1, 0, i, out, all, _, h1 => by
    have : all = [] := List.eq_nil_of_length_eq_zero (by omega)
    rw [recG, recG, if_pos this]
  | k + 1, m + 1, i, out, all, h1, h2 => by
    rw [recG, recG]
    by_cases h0 : all = []
    · rw [if_pos h0, if_pos h0]
    · rw [if_neg h0, if_neg h0]
      have hl : 0 < all.length := List.length_pos_iff.2 h0
      have hs := sizeAt_pos h i
      exact recG_fuel h k m _ _ _ (by rw [List.length_drop]; omega) (by rw [List.length_drop]; omega)
theorem rec_cells {n : Nat} (hn : n < 65536) : (#[Value.int .u8 22, .int .u8 3, .int .u8 1, .int .u8 (IntKind.u8.wrap ((n : Int) / 256)), .int .u8 (IntKind.u8.wrap (n : Int))] : Array Value).toList = ([22, 3, 1] ++ u16L n).map u8V := by
  have e1 : IntKind.u8.wrap ((n : Int) / 256) = (n : Int) / 256 := by rw [IntKind.wrap_u8]; omega
  have e2 : IntKind.u8.wrap (n : Int) = (n : Int) % 256 := by rw [IntKind.wrap_u8]
  rw [List.map_append, ← u16_cells hn, e1, e2]
  rfl
theorem with_B (w : World) (v : Value) (l : List UInt8) (h : BytesV w v l) (hn : l.length < 65536) : Calls Tryz.prog 47 #[v] w fun e w' => ∃ v', e = .returned v' ∧ OwnB w' w.heap.size v' (withL l) ∧ Keeps [] w w' := by
  obtain ⟨A, c, rfl, h1⟩ := h
  exact with_any w A l.length c l ⟨A, c, rfl, h1⟩ hn
set_option maxRecDepth 100000 in
set_option maxHeartbeats 16000000 in
theorem hello_none (w : World) (hw : LW w) (name : ByteArray) (hnm : name = ByteArray.empty) (A1 A2 : Option Addr) (n1 n2 c1 c2 : Nat) (before behind : List UInt8) (hb1 : BytesV w (.slice A1 n1 c1) before) (hb2 : BytesV w (.slice A2 n2 c2) behind) (hn1 : n1 ≤ 1000) (hn2 : n2 ≤ 1000)
    (pA : Option Addr) (pn pc : Nat) (parts : List Int) (hp : IntsV w pA pn pc parts) (hpn : pn ≤ 1000) (hlow : parts.any lowQ = false) :
    Calls Tryz.prog 18 #[.string name, .slice A1 n1 c1, .slice A2 n2 c2, .slice pA pn pc] w fun en w' => ∃ v, en = .returned (.tuple #[v, .int .i64 0]) ∧ OwnB w' w.heap.size v (helloB name.data.toList before behind parts) ∧ Keeps [] w w' := by
  obtain ⟨res, hres⟩ : ∃ res, helloB name.data.toList before behind parts = res := ⟨_, rfl⟩
  rw [hres]
  have hl1 : before.length = n1 := hb1.form.1.symm
  have hl2 : behind.length = n2 := hb2.form.1.symm
  have HF := Lib.hid (fold_any w hw name)
  have HB1 := Lib.hid hb1
  have HB2 := Lib.hid hb2
  have HP := Lib.hid hp
  have HLOW := Lib.hid hlow
  have HL := Lib.hid (And.intro hl1 hl2)
  have HRES := Lib.hid hres
  have hq1 : ¬ (1000 : Int) < (n1 : Int) := by omega
  have hq2 : ¬ (1000 : Int) < (n2 : Int) := by omega
  subst hnm
  rw [show foldIs ByteArray.empty = false from rfl, show foldB ByteArray.empty = ByteArray.empty from rfl] at HF
  clear hw hb1 hb2 hp hlow hl1 hl2 hres
  go_enter Tryz.func18, Tryz.ntmps18
  go_wp2_with fail
  refine HF.out.mono ?_
  rintro en w1 ⟨rfl, k1⟩
  have HCO := Lib.hid (lows_any w1 pA pn pc parts (HP.out.keep0 k1) (by omega))
  rw [HLOW.out] at HCO
  have HK1 := Lib.hid k1
  clear k1 HF
  go_wp2_with fail
  refine HCO.out.mono ?_
  rintro en w2 ⟨rfl, k2⟩
  have HK2 := Lib.hid (HK1.out.trans k2)
  clear k2 HCO
  go_wp2_with fail
  refine calls_gn fun w3 hw3 => ?_
  have HA3 := Lib.hid (show OwnB w3 w.heap.size _ [0, 16] by rw [hw3]; exact (OwnB.new w2 #[.int .u8 0, .int .u8 16] [0, 16] rfl (by simp)).weak HK2.out.size)
  have HK3 := Lib.hid (show Keeps [] w w3 by rw [hw3]; exact HK2.out.alloc' _)
  have HW3 := Lib.hid (with_B w3 _ before (HB1.out.keep0 HK3.out) (by have := HL.out; omega))
  refine HW3.out.mono ?_
  rintro en w4 ⟨v4, rfl, ho4, k4⟩
  have HO4 := Lib.hid ho4
  have HA4 := Lib.hid (HA3.out.keep0 k4)
  have HK4 := Lib.hid (HK3.out.trans k4)
  clear ho4 k4 HW3 hw3
  go_wp2_with (at_builtin; first | (refine app_W rfl _ _ w (HK4.out) rfl _ ([0, 16]) rfl (HA4.out) _ (withL before) rfl (HO4.out.bytes) (by simp only [List.length_append, withL_len, List.length_cons, List.length_nil, u16L, List.length_replicate]; have h1 := HL.out; omega) ?_; intro v5 w5 ho5 hk5) | (refine app_W rfl _ _ w (hk5.alloc' _) rfl _ ([0, 16] ++ withL before) rfl (ho5.keep0 (Keeps.alloc [] w5 _)) _ ([0, 21]) rfl ((OwnB.new w5 #[.int .u8 0, .int .u8 21] [0, 21] rfl (by simp)).bytes) (by simp only [List.length_append, withL_len, List.length_cons, List.length_nil, u16L, List.length_replicate]; have h1 := HL.out; omega) ?_; intro v6 w6 ho6 hk6))
  have HW6 := Lib.hid (with_B w6 _ behind (HB2.out.keep0 hk6) (by have := HL.out; omega))
  refine HW6.out.mono ?_
  rintro en w7 ⟨v7, rfl, ho7, k7⟩
  have HO7 := Lib.hid ho7
  have HA7 := Lib.hid (ho6.keep0 k7)
  have HK7 := Lib.hid (hk6.trans k7)
  obtain ⟨EX, hEX⟩ : ∃ EX, [0, 16] ++ withL before ++ [0, 21] ++ withL behind = EX := ⟨_, rfl⟩
  have hEl : EX.length ≤ 3000 := by rw [← hEX]; simp only [List.length_append, withL_len, List.length_cons, List.length_nil, u16L, List.length_replicate]; have h1 := HL.out; omega
  obtain ⟨BB, hBB⟩ : ∃ BB, [3, 3] ++ List.replicate 33 0 ++ [0, 2, 0, 47, 1, 0] ++ withL EX = BB := ⟨_, rfl⟩
  have hBl : BB.length = EX.length + 43 := by rw [← hBB]; simp only [List.length_append, withL_len, List.length_cons, List.length_nil, List.length_replicate]; omega
  obtain ⟨N, hN⟩ : ∃ N, BB.length = N := ⟨_, rfl⟩
  have hNb : N < 65536 := by omega
  have HEX := Lib.hid hEX
  have HBB := Lib.hid hBB
  have HN := Lib.hid hN
  have HEL := Lib.hid hEl
  have HBL := Lib.hid hBl
  clear ho7 k7 HW6 hEX hBB hN ho6 hk6 hEl hBl ho5 hk5
  go_wp2_with (at_builtin; first | (refine app_W rfl _ _ w (HK7.out) rfl _ ([0, 16] ++ withL before ++ [0, 21]) rfl (HA7.out) _ (withL behind) rfl (HO7.out.bytes) (by simp only [List.length_append, withL_len, List.length_cons, List.length_nil, u16L, List.length_replicate]; have h1 := HL.out; omega) ?_; intro v8 w8 ho8 hk8; rw [HEX.out] at ho8) | (refine app_Z rfl _ w8 ((Keeps.refl [] w8).alloc' _) rfl w8.heap.size rfl (cell_of_block (MapKept.heap_alloc w8 _).1 0) (cell_of_block (MapKept.heap_alloc w8 _).1 1) ?_; intro v9 w9 ho9 hk9) | (refine app_W rfl _ _ w8 (hk9.alloc' _) rfl _ ([3, 3] ++ List.replicate 33 0) rfl (ho9.keep0 (Keeps.alloc [] w9 _)) _ ([0, 2, 0, 47, 1, 0]) rfl ((OwnB.new w9 #[.int .u8 0, .int .u8 2, .int .u8 0, .int .u8 47, .int .u8 1, .int .u8 0] [0, 2, 0, 47, 1, 0] rfl (by simp)).bytes) (by simp only [List.length_append, List.length_cons, List.length_nil, List.length_replicate]; omega) ?_; intro v10 w10 ho10 hk10))
  have HW10 := Lib.hid (with_B w10 _ EX ((ho8.keep0 hk10).bytes) (by have := HEL.out; omega))
  refine HW10.out.mono ?_
  rintro en w11 ⟨v11, rfl, ho11, k11⟩
  have HO11 := Lib.hid ho11
  have HA11 := Lib.hid (ho10.keep0 k11)
  have HK11 := Lib.hid (hk10.trans k11)
  have HK8 := Lib.hid hk8
  clear ho11 k11 HW10 ho10 hk10 ho9 hk9 ho8 hk8
  go_wp2_with (at_builtin; first | (refine app_W rfl _ _ w8 (HK11.out) rfl _ ([3, 3] ++ List.replicate 33 0 ++ [0, 2, 0, 47, 1, 0]) rfl (HA11.out) _ (withL EX) rfl (HO11.out.bytes) (by simp only [List.length_append, withL_len, List.length_cons, List.length_nil, List.length_replicate]; have := HEL.out; omega) ?_; intro v12 w12 ho12 hk12; rw [HBB.out] at ho12; obtain ⟨A12, c12, e12⟩ := ho12.form; rw [HN.out] at e12; subst e12) | (refine app_W rfl _ _ w12 ((Keeps.refl [] w12).alloc' _) rfl _ ([1, 0] ++ u16L N) rfl (OwnB.new w12 #[.int .u8 1, .int .u8 0, .int .u8 ((N : Int) / 256), .int .u8 ((N : Int) % 256)] ([1, 0] ++ u16L N) (u16_cells4 hNb) (by simp [u16L])) _ (BB) rfl ((ho12.keep0 (Keeps.alloc [] w12 _)).bytes) (by simp only [List.length_append, List.length_cons, List.length_nil, u16L]; have := HN.out; omega) ?_; intro v13 w13 ho13 hk13))
  obtain ⟨AL, hAL⟩ : ∃ AL, [1, 0] ++ u16L N ++ BB = AL := ⟨_, rfl⟩
  rw [hAL] at ho13
  obtain ⟨M, hM⟩ : ∃ M, AL.length = M := ⟨_, rfl⟩
  obtain ⟨A13, c13, e13⟩ := ho13.form
  rw [hM] at e13
  subst e13
  have hMb : M ≤ 3100 := by rw [← hM, ← hAL]; simp only [List.length_append, List.length_cons, List.length_nil, u16L]; have h1 := HBL.out; have h2 := HEL.out; have h3 := HN.out; omega
  have HR0 := Lib.hid (show recG M parts 0 [] AL = res by
    rw [← HRES.out]
    show _ = recG (allB _ before behind).length parts 0 [] (allB _ before behind)
    have e : allB ByteArray.empty.data.toList before behind = AL := by
      rw [← hAL, ← HN.out, ← HBB.out, ← HEX.out]
      unfold allB bodyB extB; rw [if_pos (show ByteArray.empty.data.toList = [] from rfl)]; simp only [List.append_nil]
    rw [e, hM])
  have HBY := Lib.hid (show BytesV w13 (.slice A13 M c13) AL from ho13.bytes)
  have HKL := Lib.hid (HK8.out.trans (hk12.trans hk13))
  have HPL := Lib.hid (HP.out.keep0 HKL.out)
  have HPN := Lib.hid HPL.out.1
  clear ho13 hAL hM hk13 ho12 hk12
  go_loopw [14, 15, 16] (fun av ov iv wr => ∃ A' n' c' rest outl i, av = .slice A' n' c' ∧ iv = .int .i64 (i : Nat) ∧ Hid (BytesV w13 (.slice A' n' c') rest) ∧ Hid (OwnB wr w13.heap.size ov outl) ∧ Hid (Keeps [] w13 wr) ∧ Hid (recG n' parts i outl rest = res) ∧ i + n' ≤ 3100 ∧ outl.length + 6 * n' ≤ 20000) (fun av _ _ _ => match av with | .slice _ n _ => n | _ => 0)
  case atStart => exact ⟨A13, M, c13, AL, [], 0, rfl, rfl, HBY, Lib.hid (World.ownsRow_nil _ _ _ _), Lib.hid (Keeps.refl _ _), HR0, by omega, by simp; omega⟩
  case round =>
    obtain ⟨A', n', c', rest, outl, i, rfl, rfl, HBI, HO, HK, HG, hin, hout⟩ := hrel
    have hlen := HBI.out.form
    by_cases h0 : n' = 0
    · subst h0
      have hr0 : rest = [] := List.eq_nil_of_length_eq_zero hlen.1.symm
      subst hr0
      have HG2 := Lib.hid (show outl = res from HG.out)
      clear hlen HG HR0 hin hout
      go_wp2_with fail
      refine bodyPost_ret (v := .tuple #[u15, .int .i64 0]) (by simp [results, Tryz.results18, go_sem]) rfl ?_
      have hb := HO.out.weak (B' := w.heap.size) HKL.out.size
      rw [HG2.out] at hb
      exact ⟨u15, rfl, hb, HKL.out.trans HK.out⟩
    · have hn0 : (0 : Int) < (n' : Int) := by omega
      obtain ⟨g, o, rfl, _⟩ := HBI.out.get (by omega)
      obtain ⟨nn, hnn⟩ : ∃ nn, min (sizeAt parts i) n' = nn := ⟨_, rfl⟩
      have hsp := sizeAt_pos HLOW.out i
      have hnn1 : 1 ≤ nn := by omega
      have hnn2 : nn ≤ n' := by omega
      have hnn3 : nn < 65536 := by omega
      have hcc := hlen.2.1
      have hcI : (nn : Int) ≤ (c' : Int) := by omega
      have hnI : (nn : Int) ≤ (n' : Int) := by omega
      have hncI : (n' : Int) ≤ (c' : Int) := by omega
      have h0I : (0 : Int) ≤ (nn : Int) := by omega
      have hne : rest ≠ [] := fun h => by rw [h] at hlen; simp at hlen; omega
      have hstep : recG n' parts i outl rest = recG (n' - nn) parts (i + 1) (outl ++ ([22, 3, 1] ++ u16L nn) ++ rest.take nn) (rest.drop nn) := by
        obtain ⟨k, hk⟩ : ∃ k, n' = k + 1 := ⟨n' - 1, by omega⟩
        have e : min (sizeAt parts i) rest.length = nn := by rw [← hlen.1]; exact hnn
        rw [hk, recG, if_neg hne, e, ← List.append_assoc outl]
        exact recG_fuel HLOW.out _ _ _ _ _ (by rw [List.length_drop]; omega) (by rw [List.length_drop]; omega)
      obtain ⟨X, hX⟩ : ∃ X, (if c' = nn then some (⟨g, o, none⟩ : Addr) else some ⟨g, o + nn, none⟩) = X := ⟨_, rfl⟩
      have hpart : BytesV w13 (.slice (some ⟨g, o, none⟩) nn c') (rest.take nn) := by
        have h := HBI.out.sub (lo := 0) (hi := nn) (by omega) (by omega) (some ⟨g, o, none⟩) c' (fun _ => rfl) (by omega) hlen.2.2
        simpa using h
      have hrest : BytesV w13 (.slice X (n' - nn) (c' - nn)) (rest.drop nn) := by
        have h := HBI.out.sub (lo := nn) (hi := n') (by omega) (by omega) X (c' - nn) (fun h1 => by rw [← hX, if_neg (by omega)]) (by omega) (Nat.le_trans (Nat.sub_le _ _) hlen.2.2)
        rw [List.take_of_length_le (by rw [List.length_drop]; omega)] at h
        exact h
      have HPA := Lib.hid hpart
      have HRE := Lib.hid hrest
      have HG2 := Lib.hid (hstep.symm.trans HG.out)
      have hsz : outl.length + 5 + 6 * (n' - nn) + nn ≤ 20000 := by omega
      have hin2 : i + 1 + (n' - nn) ≤ 3100 := by omega
      have HSZ := Lib.hid (And.intro hsz (And.intro hin2 (And.intro hnn1 (And.intro hnn2 (And.intro hout hlen.1)))))
      have HRC := Lib.hid (rec_cells hnn3)
      clear hpart hrest hstep hsz hin2 hout hin hsp hlen hcc hne HG HR0
      by_cases hp0 : pn = 0
      · subst hp0
        have hpe : parts = [] := List.eq_nil_of_length_eq_zero HPN.out
        have hmin : min (16384 : Int) (n' : Int) = (nn : Int) := by
          have : sizeAt parts i = 16384 := by unfold sizeAt; rw [if_pos hpe]
          omega
        clear hnn hpe
        go_wp2_with fail
        have hib : i ≤ 3100 := by have := HSZ.out; omega
        go_region_held3 (fun _ => True) (trivial) (first | (refine step_append_B (.tmp 103) (.tmp 109) 22 rfl Tryz.underlying22 w13.heap.size (Nat.le_trans HK.out.size (Keeps.alloc [] wr _).size) _ _ outl (by rfl) (OwnB.keep0 HO.out (Keeps.alloc [] wr _).drew') _ ([22, 3, 1] ++ u16L nn) (by rfl) ((BytesV.of_own (own_new wr _ _ HRC.out (by simp [u16L, maxLen]))).keep0 (Keeps.refl [] _).drew') (by have := HSZ.out; simp only [List.length_append, List.length_cons, List.length_nil, u16L]; omega) ?_; intro v20 w20 ho20 hg20 hb20; have hk20 : Keeps [] w13 w20 := grow_keeps ((HK.out.alloc' _).drew') (OwnB.keep0 HO.out (Keeps.alloc [] wr _).drew') (Nat.le_refl _) hg20) | (refine step_append_B (.tmp 110) (.tmp 113) 22 rfl Tryz.underlying22 w13.heap.size hk20.size _ _ (outl ++ ([22, 3, 1] ++ u16L nn)) (by rfl) ho20 _ (rest.take nn) (by rfl) (HPA.out.keep0 hk20) (by have := HSZ.out; simp only [List.length_append, List.length_cons, List.length_nil, u16L, List.length_take]; omega) ?_; intro v21 w21 ho21 hg21 hb21))
        go_wp2_with fail
        have hk21 : Keeps [] w13 w21 := grow_keeps hk20 ho20 (Nat.le_refl _) hg21
        obtain ⟨q1, q2, q3, q4, q5, q6⟩ := HSZ.out
        have hlt : (rest.take nn).length = nn := by rw [List.length_take]; omega
        refine ⟨⟨X, n' - nn, c' - nn, rest.drop nn, outl ++ ([22, 3, 1] ++ u16L nn) ++ rest.take nn, i + 1, rfl, by simp, HRE, Lib.hid (by unfold OwnB; rw [List.length_append, List.length_append]; exact ho21), Lib.hid hk21, HG2, by omega, ?_⟩, ?_⟩
        · simp only [List.length_append, hlt, List.length_cons, List.length_nil, u16L]
          omega
        · show n' - nn < n'
          omega
      · obtain ⟨pg, po, rfl, hpc⟩ := HPL.out.2.2.2 (by omega)
        have hpe : parts ≠ [] := fun h => hp0 (by rw [← HPN.out, h]; rfl)
        obtain ⟨z, hz, hze⟩ := sizeAt_some hpe i
        rw [HPN.out] at hz
        have hz1 := part_pos HLOW.out hz
        obtain ⟨jj, hjj⟩ : ∃ jj, min i (pn - 1) = jj := ⟨_, rfl⟩
        rw [hjj] at hz
        have hcz : wr.cell? ⟨pg, po + jj, none⟩ = some (.int .i64 z) := cell_keeps HK.out (hpc jj z hz) (by simp)
        obtain ⟨pm, hpm⟩ : ∃ pm, pn - 1 = pm := ⟨_, rfl⟩
        have hsub : IntKind.i64.wrap ((pn : Int) - 1) = (pm : Int) := by rw [wrap_in (by omega) (by omega)]; omega
        have hsub2 : wrap64 ((pn : Int) - 1) = (pm : Int) := by unfold wrap64; omega
        have hmj : min (i : Int) (pm : Int) = (jj : Int) := by omega
        have hj1 : (0 : Int) ≤ (jj : Int) := by omega
        have hj2 : (jj : Int) < (pn : Int) := by omega
        have hp1 : (0 : Int) < (pn : Int) := by omega
        have hmin : min (min z 16384) (n' : Int) = (nn : Int) := by omega
        clear hnn hpe hz hze hpc hjj hpm hz1
        go_wp2_with fail
        have hib : i ≤ 3100 := by have := HSZ.out; omega
        go_region_held3 (fun _ => True) (trivial) (first | (refine step_append_B (.tmp 103) (.tmp 109) 22 rfl Tryz.underlying22 w13.heap.size (Nat.le_trans HK.out.size (Keeps.alloc [] wr _).size) _ _ outl (by rfl) (OwnB.keep0 HO.out (Keeps.alloc [] wr _).drew') _ ([22, 3, 1] ++ u16L nn) (by rfl) ((BytesV.of_own (own_new wr _ _ HRC.out (by simp [u16L, maxLen]))).keep0 (Keeps.refl [] _).drew') (by have := HSZ.out; simp only [List.length_append, List.length_cons, List.length_nil, u16L]; omega) ?_; intro v20 w20 ho20 hg20 hb20; have hk20 : Keeps [] w13 w20 := grow_keeps ((HK.out.alloc' _).drew') (OwnB.keep0 HO.out (Keeps.alloc [] wr _).drew') (Nat.le_refl _) hg20) | (refine step_append_B (.tmp 110) (.tmp 113) 22 rfl Tryz.underlying22 w13.heap.size hk20.size _ _ (outl ++ ([22, 3, 1] ++ u16L nn)) (by rfl) ho20 _ (rest.take nn) (by rfl) (HPA.out.keep0 hk20) (by have := HSZ.out; simp only [List.length_append, List.length_cons, List.length_nil, u16L, List.length_take]; omega) ?_; intro v21 w21 ho21 hg21 hb21))
        go_wp2_with fail
        have hk21 : Keeps [] w13 w21 := grow_keeps hk20 ho20 (Nat.le_refl _) hg21
        obtain ⟨q1, q2, q3, q4, q5, q6⟩ := HSZ.out
        have hlt : (rest.take nn).length = nn := by rw [List.length_take]; omega
        refine ⟨⟨X, n' - nn, c' - nn, rest.drop nn, outl ++ ([22, 3, 1] ++ u16L nn) ++ rest.take nn, i + 1, rfl, by simp, HRE, Lib.hid (by unfold OwnB; rw [List.length_append, List.length_append]; exact ho21), Lib.hid hk21, HG2, by omega, ?_⟩, ?_⟩
        · simp only [List.length_append, hlt, List.length_cons, List.length_nil, u16L]
          omega
        · show n' - nn < n'
          omega

set_option maxRecDepth 100000 in
set_option maxHeartbeats 16000000 in
theorem hello_named (w : World) (hw : LW w) (name : ByteArray) (hnm : name.data.toList ≠ [] ∧ name.size ≤ 253 ∧ foldIs name = true) (A1 A2 : Option Addr) (n1 n2 c1 c2 : Nat) (before behind : List UInt8) (hb1 : BytesV w (.slice A1 n1 c1) before) (hb2 : BytesV w (.slice A2 n2 c2) behind) (hn1 : n1 ≤ 1000) (hn2 : n2 ≤ 1000)
    (pA : Option Addr) (pn pc : Nat) (parts : List Int) (hp : IntsV w pA pn pc parts) (hpn : pn ≤ 1000) (hlow : parts.any lowQ = false) :
    Calls Tryz.prog 18 #[.string name, .slice A1 n1 c1, .slice A2 n2 c2, .slice pA pn pc] w fun en w' => ∃ v, en = .returned (.tuple #[v, .int .i64 0]) ∧ OwnB w' w.heap.size v (helloB name.data.toList before behind parts) ∧ Keeps [] w w' := by
  obtain ⟨res, hres⟩ : ∃ res, helloB name.data.toList before behind parts = res := ⟨_, rfl⟩
  rw [hres]
  have hl1 : before.length = n1 := hb1.form.1.symm
  have hl2 : behind.length = n2 := hb2.form.1.symm
  have HF := Lib.hid (fold_any w hw name)
  have HB1 := Lib.hid hb1
  have HB2 := Lib.hid hb2
  have HP := Lib.hid hp
  have HLOW := Lib.hid hlow
  have HL := Lib.hid (And.intro hl1 hl2)
  have HRES := Lib.hid hres
  have hq1 : ¬ (1000 : Int) < (n1 : Int) := by omega
  have hq2 : ¬ (1000 : Int) < (n2 : Int) := by omega
  obtain ⟨hne, hns, hfi⟩ := hnm
  have hE : name.toList.isEmpty = false := by rw [Lib.toList_data]; cases h : name.data.toList with
    | nil => exact absurd h hne
    | cons a l => rfl
  obtain ⟨low, hlow2⟩ : ∃ low, foldB name = low := ⟨_, rfl⟩
  rw [hfi, hlow2] at HF
  have HNE := Lib.hid (And.intro hne (And.intro hns hlow2))
  clear hne hns hfi hlow2
  clear hw hb1 hb2 hp hlow hl1 hl2 hres
  go_enter Tryz.func18, Tryz.ntmps18
  go_wp2_with fail
  refine HF.out.mono ?_
  rintro en w1 ⟨rfl, k1⟩
  have HCO := Lib.hid (lows_any w1 pA pn pc parts (HP.out.keep0 k1) (by omega))
  rw [HLOW.out] at HCO
  have HK1 := Lib.hid k1
  clear k1 HF
  go_wp2_with fail
  refine HCO.out.mono ?_
  rintro en w2 ⟨rfl, k2⟩
  have HK2 := Lib.hid (HK1.out.trans k2)
  clear k2 HCO
  go_wp2_with fail
  refine calls_gn fun w3 hw3 => ?_
  have HA3 := Lib.hid (show OwnB w3 w.heap.size _ [0, 16] by rw [hw3]; exact (OwnB.new w2 #[.int .u8 0, .int .u8 16] [0, 16] rfl (by simp)).weak HK2.out.size)
  have HK3 := Lib.hid (show Keeps [] w w3 by rw [hw3]; exact HK2.out.alloc' _)
  have HW3 := Lib.hid (with_B w3 _ before (HB1.out.keep0 HK3.out) (by have := HL.out; omega))
  refine HW3.out.mono ?_
  rintro en w4 ⟨v4, rfl, ho4, k4⟩
  have HO4 := Lib.hid ho4
  have HA4 := Lib.hid (HA3.out.keep0 k4)
  have HK4 := Lib.hid (HK3.out.trans k4)
  clear ho4 k4 HW3 hw3
  have HNS := Lib.hid (show name.data.toList.length ≤ 253 by have := HNE.out.2.1; rw [← size_eq]; exact this)
  have hcv := fun w => Go.Lib.run_convert_string_bytes (P := Tryz.prog) w 9 22 5 name (u := .string) Tryz.underlying9 Tryz.underlying22 Tryz.underlying5
  go_wp2_with (at_builtin; first | (refine app_W rfl _ _ w (HK4.out) rfl _ ([0, 16]) rfl (HA4.out) _ (withL before) rfl (HO4.out.bytes) (by simp only [List.length_append, withL_len, List.length_cons, List.length_nil, u16L, List.length_replicate]; have h1 := HL.out; omega) ?_; intro v5 w5 ho5 hk5) | (refine app_W rfl _ _ w (hk5.alloc' _) rfl _ ([0, 16] ++ withL before) rfl (ho5.keep0 (Keeps.alloc [] w5 _)) _ ([0, 0]) rfl ((OwnB.new w5 #[.int .u8 0, .int .u8 0] [0, 0] rfl (by simp)).bytes) (by simp only [List.length_append, withL_len, List.length_cons, List.length_nil, u16L, List.length_replicate]; have h1 := HL.out; omega) ?_; intro v20 w20 ho20 hk20))
  obtain ⟨wq, hwq⟩ : ∃ wq, w20.alloc (.cells #[.int .u8 0] 5) = wq := ⟨_, rfl⟩
  have hqs : wq.heap.size = w20.heap.size + 1 := by rw [← hwq]; exact Array.size_push ..
  have HOQ := Lib.hid (show OwnB wq w20.heap.size (.slice (some ⟨w20.heap.size, 0, none⟩) 1 1) [0] by rw [← hwq]; exact OwnB.new w20 #[.int .u8 0] [0] rfl (by simp))
  have HKQ := Lib.hid (show Keeps [] w20 wq by rw [← hwq]; exact Keeps.alloc [] w20 _)
  refine calls_gn fun w22 hw22 => ?_
  have hw22' : w22 = bytesWorld wq 5 name := by rw [hw22, ← hwq]
  have HK22 := Lib.hid (show Keeps [] wq w22 by rw [hw22']; exact Below.keeps ⟨rfl, rfl, rfl, by rw [bytesWorld_size]; omega, fun j hj => bytesWorld_at_old wq _ name j hj⟩)
  have hnb : BytesV w22 (.slice (some ⟨wq.heap.size, 0, none⟩) name.size (grownCap wq name.size 0 5)) name.data.toList := by
    refine ⟨some ⟨wq.heap.size, 0, none⟩, _, by rw [size_eq], by rw [← size_eq]; exact grownCap_ge wq _ _ _, grownCap_le (by have := HNE.out.2.1; simp [maxLen]; omega), fun hp => ⟨wq.heap.size, 0, rfl, fun i x hx => ?_⟩⟩
    have hi : i < name.size := by rw [size_eq]; exact (List.getElem?_eq_some_iff.1 hx).1
    rw [hw22', Nat.zero_add, bytesWorld_cell wq _ name i hi, List.getD_eq_getElem?_getD, hx]
    rfl
  rw [hqs] at hnb
  have HW22 := Lib.hid (with_B w22 _ name.data.toList hnb (by have := HNS.out; omega))
  have HO20 := Lib.hid ho20
  have HK20 := Lib.hid hk20
  clear hnb hw22 hw22' hcv ho20 hk20 ho5 hk5
  rw [hwq]
  clear hwq
  refine HW22.out.mono ?_
  rintro en w23 ⟨v23, rfl, ho23, k23⟩
  have HO23 := Lib.hid ho23
  have HKR := Lib.hid (HKQ.out.trans (HK22.out.trans k23))
  have HOR := Lib.hid ((HOQ.out.keep0 HK22.out).keep0 k23)
  clear ho23 k23 HW22
  go_wp2_with (at_builtin; first | (refine app_W rfl _ _ w20 (HKR.out) rfl _ ([0]) rfl (HOR.out) _ (withL name.data.toList) rfl (HO23.out.bytes) (by have h2 := HNS.out; simp only [List.length_append, withL_len, List.length_cons, List.length_nil, u16L, List.length_replicate]; have h1 := HL.out; omega) ?_; intro v24 w24 ho24 hk24))
  have HW24 := Lib.hid (with_B w24 _ ([0] ++ withL name.data.toList) ho24.bytes (by have h2 := HNS.out; simp only [List.length_append, withL_len, List.length_cons, List.length_nil, u16L, List.length_replicate]; have h1 := HL.out; omega))
  refine HW24.out.mono ?_
  rintro en w25 ⟨v25, rfl, ho25, k25⟩
  have HO25 := Lib.hid ho25
  have HK25 := Lib.hid (hk24.trans k25)
  have HW25 := Lib.hid (with_B w25 _ _ ho25.bytes (by have h2 := HNS.out; simp only [List.length_append, withL_len, List.length_cons, List.length_nil, u16L, List.length_replicate]; have h1 := HL.out; omega))
  clear ho25 k25 HW24
  go_wp2_with fail
  refine HW25.out.mono ?_
  rintro en w26 ⟨v26, rfl, ho26, k26⟩
  have HO26 := Lib.hid ho26
  have HK26 := Lib.hid (HK25.out.trans k26)
  clear ho26 k26 HW25 ho24 hk24
  go_wp2_with (at_builtin; first | (refine app_W rfl _ _ w (HK20.out.trans HK26.out) rfl _ ([0, 16] ++ withL before ++ [0, 0]) rfl (HO20.out.keep0 HK26.out) _ (withL (withL ([0] ++ withL name.data.toList))) rfl (HO26.out.bytes) (by have h2 := HNS.out; simp only [List.length_append, withL_len, List.length_cons, List.length_nil, u16L, List.length_replicate]; have h1 := HL.out; omega) ?_; intro v27 w27 ho27 hk27) | (refine app_W rfl _ _ w (hk27.alloc' _) rfl _ ([0, 16] ++ withL before ++ [0, 0] ++ withL (withL ([0] ++ withL name.data.toList))) rfl (ho27.keep0 (Keeps.alloc [] w27 _)) _ ([0, 21]) rfl ((OwnB.new w27 #[.int .u8 0, .int .u8 21] [0, 21] rfl (by simp)).bytes) (by have h2 := HNS.out; simp only [List.length_append, withL_len, List.length_cons, List.length_nil, u16L, List.length_replicate]; have h1 := HL.out; omega) ?_; intro v6 w6 ho6 hk6))
  have HW6 := Lib.hid (with_B w6 _ behind (HB2.out.keep0 hk6) (by have := HL.out; omega))
  refine HW6.out.mono ?_
  rintro en w7 ⟨v7, rfl, ho7, k7⟩
  have HO7 := Lib.hid ho7
  have HA7 := Lib.hid (ho6.keep0 k7)
  have HK7 := Lib.hid (hk6.trans k7)
  obtain ⟨EX, hEX⟩ : ∃ EX, [0, 16] ++ withL before ++ [0, 0] ++ withL (withL ([0] ++ withL name.data.toList)) ++ [0, 21] ++ withL behind = EX := ⟨_, rfl⟩
  have hEl : EX.length ≤ 3000 := by rw [← hEX]; have h2 := HNS.out; simp only [List.length_append, withL_len, List.length_cons, List.length_nil, u16L, List.length_replicate]; have h1 := HL.out; omega
  obtain ⟨BB, hBB⟩ : ∃ BB, [3, 3] ++ List.replicate 33 0 ++ [0, 2, 0, 47, 1, 0] ++ withL EX = BB := ⟨_, rfl⟩
  have hBl : BB.length = EX.length + 43 := by rw [← hBB]; simp only [List.length_append, withL_len, List.length_cons, List.length_nil, List.length_replicate]; omega
  obtain ⟨N, hN⟩ : ∃ N, BB.length = N := ⟨_, rfl⟩
  have hNb : N < 65536 := by omega
  have HEX := Lib.hid hEX
  have HBB := Lib.hid hBB
  have HN := Lib.hid hN
  have HEL := Lib.hid hEl
  have HBL := Lib.hid hBl
  clear ho7 k7 HW6 hEX hBB hN ho6 hk6 hEl hBl ho27 hk27
  go_wp2_with (at_builtin; first | (refine app_W rfl _ _ w (HK7.out) rfl _ ([0, 16] ++ withL before ++ [0, 0] ++ withL (withL ([0] ++ withL name.data.toList)) ++ [0, 21]) rfl (HA7.out) _ (withL behind) rfl (HO7.out.bytes) (by have h2 := HNS.out; simp only [List.length_append, withL_len, List.length_cons, List.length_nil, u16L, List.length_replicate]; have h1 := HL.out; omega) ?_; intro v8 w8 ho8 hk8; rw [HEX.out] at ho8) | (refine app_Z rfl _ w8 ((Keeps.refl [] w8).alloc' _) rfl w8.heap.size rfl (cell_of_block (MapKept.heap_alloc w8 _).1 0) (cell_of_block (MapKept.heap_alloc w8 _).1 1) ?_; intro v9 w9 ho9 hk9) | (refine app_W rfl _ _ w8 (hk9.alloc' _) rfl _ ([3, 3] ++ List.replicate 33 0) rfl (ho9.keep0 (Keeps.alloc [] w9 _)) _ ([0, 2, 0, 47, 1, 0]) rfl ((OwnB.new w9 #[.int .u8 0, .int .u8 2, .int .u8 0, .int .u8 47, .int .u8 1, .int .u8 0] [0, 2, 0, 47, 1, 0] rfl (by simp)).bytes) (by simp only [List.length_append, List.length_cons, List.length_nil, List.length_replicate]; omega) ?_; intro v10 w10 ho10 hk10))
  have HW10 := Lib.hid (with_B w10 _ EX ((ho8.keep0 hk10).bytes) (by have := HEL.out; omega))
  refine HW10.out.mono ?_
  rintro en w11 ⟨v11, rfl, ho11, k11⟩
  have HO11 := Lib.hid ho11
  have HA11 := Lib.hid (ho10.keep0 k11)
  have HK11 := Lib.hid (hk10.trans k11)
  have HK8 := Lib.hid hk8
  clear ho11 k11 HW10 ho10 hk10 ho9 hk9 ho8 hk8
  go_wp2_with (at_builtin; first | (refine app_W rfl _ _ w8 (HK11.out) rfl _ ([3, 3] ++ List.replicate 33 0 ++ [0, 2, 0, 47, 1, 0]) rfl (HA11.out) _ (withL EX) rfl (HO11.out.bytes) (by simp only [List.length_append, withL_len, List.length_cons, List.length_nil, List.length_replicate]; have := HEL.out; omega) ?_; intro v12 w12 ho12 hk12; rw [HBB.out] at ho12; obtain ⟨A12, c12, e12⟩ := ho12.form; rw [HN.out] at e12; subst e12) | (refine app_W rfl _ _ w12 ((Keeps.refl [] w12).alloc' _) rfl _ ([1, 0] ++ u16L N) rfl (OwnB.new w12 #[.int .u8 1, .int .u8 0, .int .u8 ((N : Int) / 256), .int .u8 ((N : Int) % 256)] ([1, 0] ++ u16L N) (u16_cells4 hNb) (by simp [u16L])) _ (BB) rfl ((ho12.keep0 (Keeps.alloc [] w12 _)).bytes) (by simp only [List.length_append, List.length_cons, List.length_nil, u16L]; have := HN.out; omega) ?_; intro v13 w13 ho13 hk13))
  obtain ⟨AL, hAL⟩ : ∃ AL, [1, 0] ++ u16L N ++ BB = AL := ⟨_, rfl⟩
  rw [hAL] at ho13
  obtain ⟨M, hM⟩ : ∃ M, AL.length = M := ⟨_, rfl⟩
  obtain ⟨A13, c13, e13⟩ := ho13.form
  rw [hM] at e13
  subst e13
  have hMb : M ≤ 3100 := by rw [← hM, ← hAL]; simp only [List.length_append, List.length_cons, List.length_nil, u16L]; have h1 := HBL.out; have h2 := HEL.out; have h3 := HN.out; omega
  have HR0 := Lib.hid (show recG M parts 0 [] AL = res by
    rw [← HRES.out]
    show _ = recG (allB _ before behind).length parts 0 [] (allB _ before behind)
    have e : allB name.data.toList before behind = AL := by
      rw [← hAL, ← HN.out, ← HBB.out, ← HEX.out]
      unfold allB bodyB extB; rw [if_neg HNE.out.1]; simp only [List.append_assoc]
    rw [e, hM])
  have HBY := Lib.hid (show BytesV w13 (.slice A13 M c13) AL from ho13.bytes)
  have HKL := Lib.hid (HK8.out.trans (hk12.trans hk13))
  have HPL := Lib.hid (HP.out.keep0 HKL.out)
  have HPN := Lib.hid HPL.out.1
  clear ho13 hAL hM hk13 ho12 hk12
  go_loopw [14, 15, 16] (fun av ov iv wr => ∃ A' n' c' rest outl i, av = .slice A' n' c' ∧ iv = .int .i64 (i : Nat) ∧ Hid (BytesV w13 (.slice A' n' c') rest) ∧ Hid (OwnB wr w13.heap.size ov outl) ∧ Hid (Keeps [] w13 wr) ∧ Hid (recG n' parts i outl rest = res) ∧ i + n' ≤ 3100 ∧ outl.length + 6 * n' ≤ 20000) (fun av _ _ _ => match av with | .slice _ n _ => n | _ => 0)
  case atStart => exact ⟨A13, M, c13, AL, [], 0, rfl, rfl, HBY, Lib.hid (World.ownsRow_nil _ _ _ _), Lib.hid (Keeps.refl _ _), HR0, by omega, by simp; omega⟩
  case round =>
    obtain ⟨A', n', c', rest, outl, i, rfl, rfl, HBI, HO, HK, HG, hin, hout⟩ := hrel
    have hlen := HBI.out.form
    by_cases h0 : n' = 0
    · subst h0
      have hr0 : rest = [] := List.eq_nil_of_length_eq_zero hlen.1.symm
      subst hr0
      have HG2 := Lib.hid (show outl = res from HG.out)
      clear hlen HG HR0 hin hout
      go_wp2_with fail
      refine bodyPost_ret (v := .tuple #[u15, .int .i64 0]) (by simp [results, Tryz.results18, go_sem]) rfl ?_
      have hb := HO.out.weak (B' := w.heap.size) HKL.out.size
      rw [HG2.out] at hb
      exact ⟨u15, rfl, hb, HKL.out.trans HK.out⟩
    · have hn0 : (0 : Int) < (n' : Int) := by omega
      obtain ⟨g, o, rfl, _⟩ := HBI.out.get (by omega)
      obtain ⟨nn, hnn⟩ : ∃ nn, min (sizeAt parts i) n' = nn := ⟨_, rfl⟩
      have hsp := sizeAt_pos HLOW.out i
      have hnn1 : 1 ≤ nn := by omega
      have hnn2 : nn ≤ n' := by omega
      have hnn3 : nn < 65536 := by omega
      have hcc := hlen.2.1
      have hcI : (nn : Int) ≤ (c' : Int) := by omega
      have hnI : (nn : Int) ≤ (n' : Int) := by omega
      have hncI : (n' : Int) ≤ (c' : Int) := by omega
      have h0I : (0 : Int) ≤ (nn : Int) := by omega
      have hne : rest ≠ [] := fun h => by rw [h] at hlen; simp at hlen; omega
      have hstep : recG n' parts i outl rest = recG (n' - nn) parts (i + 1) (outl ++ ([22, 3, 1] ++ u16L nn) ++ rest.take nn) (rest.drop nn) := by
        obtain ⟨k, hk⟩ : ∃ k, n' = k + 1 := ⟨n' - 1, by omega⟩
        have e : min (sizeAt parts i) rest.length = nn := by rw [← hlen.1]; exact hnn
        rw [hk, recG, if_neg hne, e, ← List.append_assoc outl]
        exact recG_fuel HLOW.out _ _ _ _ _ (by rw [List.length_drop]; omega) (by rw [List.length_drop]; omega)
      obtain ⟨X, hX⟩ : ∃ X, (if c' = nn then some (⟨g, o, none⟩ : Addr) else some ⟨g, o + nn, none⟩) = X := ⟨_, rfl⟩
      have hpart : BytesV w13 (.slice (some ⟨g, o, none⟩) nn c') (rest.take nn) := by
        have h := HBI.out.sub (lo := 0) (hi := nn) (by omega) (by omega) (some ⟨g, o, none⟩) c' (fun _ => rfl) (by omega) hlen.2.2
        simpa using h
      have hrest : BytesV w13 (.slice X (n' - nn) (c' - nn)) (rest.drop nn) := by
        have h := HBI.out.sub (lo := nn) (hi := n') (by omega) (by omega) X (c' - nn) (fun h1 => by rw [← hX, if_neg (by omega)]) (by omega) (Nat.le_trans (Nat.sub_le _ _) hlen.2.2)
        rw [List.take_of_length_le (by rw [List.length_drop]; omega)] at h
        exact h
      have HPA := Lib.hid hpart
      have HRE := Lib.hid hrest
      have HG2 := Lib.hid (hstep.symm.trans HG.out)
      have hsz : outl.length + 5 + 6 * (n' - nn) + nn ≤ 20000 := by omega
      have hin2 : i + 1 + (n' - nn) ≤ 3100 := by omega
      have HSZ := Lib.hid (And.intro hsz (And.intro hin2 (And.intro hnn1 (And.intro hnn2 (And.intro hout hlen.1)))))
      have HRC := Lib.hid (rec_cells hnn3)
      clear hpart hrest hstep hsz hin2 hout hin hsp hlen hcc hne HG HR0
      by_cases hp0 : pn = 0
      · subst hp0
        have hpe : parts = [] := List.eq_nil_of_length_eq_zero HPN.out
        have hmin : min (16384 : Int) (n' : Int) = (nn : Int) := by
          have : sizeAt parts i = 16384 := by unfold sizeAt; rw [if_pos hpe]
          omega
        clear hnn hpe
        go_wp2_with fail
        have hib : i ≤ 3100 := by have := HSZ.out; omega
        go_region_held3 (fun _ => True) (trivial) (first | (refine step_append_B (.tmp 103) (.tmp 109) 22 rfl Tryz.underlying22 w13.heap.size (Nat.le_trans HK.out.size (Keeps.alloc [] wr _).size) _ _ outl (by rfl) (OwnB.keep0 HO.out (Keeps.alloc [] wr _).drew') _ ([22, 3, 1] ++ u16L nn) (by rfl) ((BytesV.of_own (own_new wr _ _ HRC.out (by simp [u16L, maxLen]))).keep0 (Keeps.refl [] _).drew') (by have := HSZ.out; simp only [List.length_append, List.length_cons, List.length_nil, u16L]; omega) ?_; intro v20 w20 ho20 hg20 hb20; have hk20 : Keeps [] w13 w20 := grow_keeps ((HK.out.alloc' _).drew') (OwnB.keep0 HO.out (Keeps.alloc [] wr _).drew') (Nat.le_refl _) hg20) | (refine step_append_B (.tmp 110) (.tmp 113) 22 rfl Tryz.underlying22 w13.heap.size hk20.size _ _ (outl ++ ([22, 3, 1] ++ u16L nn)) (by rfl) ho20 _ (rest.take nn) (by rfl) (HPA.out.keep0 hk20) (by have := HSZ.out; simp only [List.length_append, List.length_cons, List.length_nil, u16L, List.length_take]; omega) ?_; intro v21 w21 ho21 hg21 hb21))
        go_wp2_with fail
        have hk21 : Keeps [] w13 w21 := grow_keeps hk20 ho20 (Nat.le_refl _) hg21
        obtain ⟨q1, q2, q3, q4, q5, q6⟩ := HSZ.out
        have hlt : (rest.take nn).length = nn := by rw [List.length_take]; omega
        refine ⟨⟨X, n' - nn, c' - nn, rest.drop nn, outl ++ ([22, 3, 1] ++ u16L nn) ++ rest.take nn, i + 1, rfl, by simp, HRE, Lib.hid (by unfold OwnB; rw [List.length_append, List.length_append]; exact ho21), Lib.hid hk21, HG2, by omega, ?_⟩, ?_⟩
        · simp only [List.length_append, hlt, List.length_cons, List.length_nil, u16L]
          omega
        · show n' - nn < n'
          omega
      · obtain ⟨pg, po, rfl, hpc⟩ := HPL.out.2.2.2 (by omega)
        have hpe : parts ≠ [] := fun h => hp0 (by rw [← HPN.out, h]; rfl)
        obtain ⟨z, hz, hze⟩ := sizeAt_some hpe i
        rw [HPN.out] at hz
        have hz1 := part_pos HLOW.out hz
        obtain ⟨jj, hjj⟩ : ∃ jj, min i (pn - 1) = jj := ⟨_, rfl⟩
        rw [hjj] at hz
        have hcz : wr.cell? ⟨pg, po + jj, none⟩ = some (.int .i64 z) := cell_keeps HK.out (hpc jj z hz) (by simp)
        obtain ⟨pm, hpm⟩ : ∃ pm, pn - 1 = pm := ⟨_, rfl⟩
        have hsub : IntKind.i64.wrap ((pn : Int) - 1) = (pm : Int) := by rw [wrap_in (by omega) (by omega)]; omega
        have hsub2 : wrap64 ((pn : Int) - 1) = (pm : Int) := by unfold wrap64; omega
        have hmj : min (i : Int) (pm : Int) = (jj : Int) := by omega
        have hj1 : (0 : Int) ≤ (jj : Int) := by omega
        have hj2 : (jj : Int) < (pn : Int) := by omega
        have hp1 : (0 : Int) < (pn : Int) := by omega
        have hmin : min (min z 16384) (n' : Int) = (nn : Int) := by omega
        clear hnn hpe hz hze hpc hjj hpm hz1
        go_wp2_with fail
        have hib : i ≤ 3100 := by have := HSZ.out; omega
        go_region_held3 (fun _ => True) (trivial) (first | (refine step_append_B (.tmp 103) (.tmp 109) 22 rfl Tryz.underlying22 w13.heap.size (Nat.le_trans HK.out.size (Keeps.alloc [] wr _).size) _ _ outl (by rfl) (OwnB.keep0 HO.out (Keeps.alloc [] wr _).drew') _ ([22, 3, 1] ++ u16L nn) (by rfl) ((BytesV.of_own (own_new wr _ _ HRC.out (by simp [u16L, maxLen]))).keep0 (Keeps.refl [] _).drew') (by have := HSZ.out; simp only [List.length_append, List.length_cons, List.length_nil, u16L]; omega) ?_; intro v20 w20 ho20 hg20 hb20; have hk20 : Keeps [] w13 w20 := grow_keeps ((HK.out.alloc' _).drew') (OwnB.keep0 HO.out (Keeps.alloc [] wr _).drew') (Nat.le_refl _) hg20) | (refine step_append_B (.tmp 110) (.tmp 113) 22 rfl Tryz.underlying22 w13.heap.size hk20.size _ _ (outl ++ ([22, 3, 1] ++ u16L nn)) (by rfl) ho20 _ (rest.take nn) (by rfl) (HPA.out.keep0 hk20) (by have := HSZ.out; simp only [List.length_append, List.length_cons, List.length_nil, u16L, List.length_take]; omega) ?_; intro v21 w21 ho21 hg21 hb21))
        go_wp2_with fail
        have hk21 : Keeps [] w13 w21 := grow_keeps hk20 ho20 (Nat.le_refl _) hg21
        obtain ⟨q1, q2, q3, q4, q5, q6⟩ := HSZ.out
        have hlt : (rest.take nn).length = nn := by rw [List.length_take]; omega
        refine ⟨⟨X, n' - nn, c' - nn, rest.drop nn, outl ++ ([22, 3, 1] ++ u16L nn) ++ rest.take nn, i + 1, rfl, by simp, HRE, Lib.hid (by unfold OwnB; rw [List.length_append, List.length_append]; exact ho21), Lib.hid hk21, HG2, by omega, ?_⟩, ?_⟩
        · simp only [List.length_append, hlt, List.length_cons, List.length_nil, u16L]
          omega
        · show n' - nn < n'
          omega

end Go.Proofs.YtpoheemjdieogaaGreatDoor
