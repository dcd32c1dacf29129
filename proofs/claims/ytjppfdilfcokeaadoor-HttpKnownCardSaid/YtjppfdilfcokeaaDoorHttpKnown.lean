/-
  The law HttpKnown: the walk. Condition: the library's variables lie as listed. Printed by program.
-/
import Derived.Test.YtjppfdilfcokeaaDoorHttpN
import Derived.Test.YtjppfdilfcokeaaDoorHttpD
import Derived.Deep.MidRow
namespace Go.Proofs.YtjppfdilfcokeaaDoor
open Go.RowKit Go.Lib
set_option linter.unusedVariables false
set_option linter.unusedSimpArgs false

theorem wpl_gn {P : Program} {ops : Array Oper} {rest : List Oper} {a : Act} {w : World} {Q : Exit → Act → World → Prop} (h : ∀ W, W = w → wpList P ops Q rest a W) : wpList P ops Q rest a w := h w rfl
def zeros18 : List Value := List.replicate 18 (.string ⟨#[]⟩)
def wrongs18 : List Value := [.string ⟨#[103]⟩, .string ⟨#[32]⟩, .string ⟨#[65, 66, 67, 68, 69, 70, 71, 72, 73, 74, 75, 76, 77, 78, 79, 80, 81]⟩, .string ⟨#[71, 49]⟩, .string ⟨#[71, 69, 84, 32, 97]⟩, .string ⟨#[71, 69, 84, 32, 32]⟩, .string ⟨#[71, 69, 84, 32, 47, 10]⟩, .string ⟨#[71, 69, 84, 32, 47, 32, 72, 84, 84, 81]⟩, .string ⟨#[71, 69, 84, 32, 47, 32, 72, 84, 84, 80, 47, 50]⟩, .string ⟨#[71, 69, 84, 32, 47, 32, 72, 84, 84, 80, 47, 49, 46, 49, 10]⟩, .string ⟨#[71, 69, 84, 32, 47, 32, 72, 84, 84, 80, 47, 49, 46, 49, 13, 120]⟩, .string ⟨#[71, 69, 84, 32, 47, 32, 72, 84, 84, 80, 47, 49, 46, 49, 32]⟩, .string ⟨#[71, 69, 84, 32, 104, 120]⟩, .string ⟨#[71, 69, 84, 32, 104, 116, 116, 112, 58, 47, 47, 46]⟩, .string ⟨#[71, 69, 84, 32, 104, 116, 116, 112, 58, 47, 47, 97, 58]⟩, .string ⟨#[71, 69, 84, 32, 47, 32, 72, 84, 84, 80, 47, 49, 46, 49, 13, 10, 58]⟩, .string ⟨#[71, 69, 84, 32, 47, 32, 72, 84, 84, 80, 47, 49, 46, 49, 13, 10, 97, 32]⟩, .string ⟨#[71, 69, 84, 32, 47, 32, 72, 84, 84, 80, 47, 49, 46, 49, 13, 10, 72, 111, 115, 116, 58, 32, 97, 32, 98]⟩]
theorem wrongs18_eq : wrongs18 = wrongsL.map (fun s => Value.string (bs s)) := by rfl
theorem below_setCells' {B b : Nat} {a : World} (hb : B ≤ b) : ∀ (vs : List Value) (o : Nat) (w : World), Below B a w → Below B a (w.setCells b o vs)
  | [], _, _, h => h
  | v :: r, o, w, h => below_setCells' hb r (o + 1) _ (h.setCell (p := ⟨b, o, none⟩) hb v)
theorem there_alloc_new (w : World) (cs : List Value) (t : TypeId) (n : Nat) (hn : cs.length = n) : (w.alloc (.cells cs.toArray t)).there w.heap.size 0 n := by
  intro j hj
  have hh := (MapKept.heap_alloc w (.cells cs.toArray t)).1
  refine ⟨?_, free_of_block hh _⟩
  rw [cell_of_block hh]
  simp; omega
theorem store_new (w : World) (zs cs : List Value) (t : TypeId) (n : Nat) (hz : zs.length = n) (hc : cs.length = n) : ∀ W, W = (w.alloc (.cells zs.toArray t)).setCells w.heap.size 0 cs → W.rangeAt w.heap.size 0 cs ∧ Keeps [] w W := by
  rintro W rfl
  exact ⟨World.rangeAt_setCells_same _ w.heap.size 0 cs (by rw [hc]; exact there_alloc_new w zs t n hz), Below.keeps (below_setCells' (Nat.le_refl _) cs 0 _ ((Below.refl w.heap.size w).alloc (Nat.le_refl _) (.cells zs.toArray t)))⟩
theorem rep_any (w : World) (x : UInt8) (c : Nat) (hc : c ≤ 2000) : Calls Tryd.prog 16 #[.string (bs [x]), .int .i64 c] w fun e w' => e = .returned (.string (bs (Lib.repeatL [x] c))) ∧ Keeps [] w w' :=
  (Any.strings_Repeat Tryd.repL Tryd.repX (bs [x]) c w (by omega) (by show 1 * c ≤ _; omega)).mono fun e w' ⟨h, k⟩ => ⟨h, Below.keeps k⟩
theorem field_one {w : World} {b : Nat} {x y : List UInt8} {t : TypeId} {z : Nat × Nat} (h : w.heap[b]? = some (.cells #[.string (bs x), .string (bs y)] t z)) : FieldsV w (some ⟨b, 0, none⟩) 1 1 [(x, y)] := by
  refine ⟨rfl, Nat.le_refl _, fun _ => ⟨b, 0, rfl, fun i f hf => ?_⟩⟩
  have hi : i = 0 := by have := (List.getElem?_eq_some_iff.1 hf).1; simp at this; exact this
  subst hi
  simp at hf
  subst hf
  exact ⟨cell_of_block h 0, cell_of_block h 1⟩
def manyAt (w : World) (mb i : Nat) : Prop := ∃ cur : Array Value, w.heap[mb]? = some (.cells cur 32 (0, 0)) ∧ cur.size = 202 ∧ ∀ j, j < i → cur[j * 2]? = some (.string (bs [97])) ∧ cur[j * 2 + 1]? = some (.string (bs []))
theorem manyAt.cell {w : World} {mb i : Nat} (h : manyAt w mb i) {k : Nat} (hk : k < 202) : (∃ v, w.cell? ⟨mb, k, none⟩ = some v) ∧ w.frozen? ⟨mb, k, none⟩ = false := by
  obtain ⟨cur, h1, h2, _⟩ := h
  refine ⟨⟨cur[k]'(by omega), ?_⟩, free_of_block h1 k⟩
  rw [cell_of_block h1 k, Array.getElem?_eq_getElem]
theorem manyAt.put {w : World} {mb i : Nat} (h : manyAt w mb i) (hi : i < 101) : manyAt ((w.setCell ⟨mb, i * 2, none⟩ (.string (bs [97]))).setCell ⟨mb, i * 2 + 1, none⟩ (.string (bs []))) mb (i + 1) ∧ Keeps [mb] w ((w.setCell ⟨mb, i * 2, none⟩ (.string (bs [97]))).setCell ⟨mb, i * 2 + 1, none⟩ (.string (bs []))) := by
  obtain ⟨cur, h1, h2, h3⟩ := h
  have g1 := heap_setCell_self h1 (i * 2) (.string (bs [97]))
  have g2 := heap_setCell_self g1 (i * 2 + 1) (.string (bs []))
  refine ⟨⟨_, g2, by simp [h2], fun j hj => ?_⟩, (Keeps.setCell w ⟨mb, i * 2, none⟩ _).trans (Keeps.setCell _ ⟨mb, i * 2 + 1, none⟩ _)⟩
  by_cases he : j = i
  · subst he
    constructor
    · rw [Array.getElem?_setIfInBounds_ne (by omega), Array.getElem?_setIfInBounds_self_of_lt (by omega)]
    · rw [Array.getElem?_setIfInBounds_self_of_lt (by simp; omega)]
  · obtain ⟨q1, q2⟩ := h3 j (by omega)
    constructor
    · rw [Array.getElem?_setIfInBounds_ne (by omega), Array.getElem?_setIfInBounds_ne (by omega)]; exact q1
    · rw [Array.getElem?_setIfInBounds_ne (by omega), Array.getElem?_setIfInBounds_ne (by omega)]; exact q2
theorem manyAt.fields {w : World} {mb : Nat} (h : manyAt w mb 101) : FieldsV w (some ⟨mb, 0, none⟩) 101 101 manyL := by
  obtain ⟨cur, h1, h2, h3⟩ := h
  refine ⟨by simp [manyL], Nat.le_refl _, fun _ => ⟨mb, 0, rfl, fun i f hf => ?_⟩⟩
  have hi : i < 101 := by have := (List.getElem?_eq_some_iff.1 hf).1; simpa [manyL] using this
  have hfe : f = ([97], []) := by
    unfold manyL at hf
    rw [List.getElem?_replicate, if_pos hi] at hf
    exact (Option.some.inj hf).symm
  subst hfe
  obtain ⟨q1, q2⟩ := h3 i hi
  rw [Nat.zero_add]
  exact ⟨by rw [cell_of_block h1]; exact q1, by rw [cell_of_block h1]; exact q2⟩
theorem FieldsV.cut {w : World} {A : Option Addr} {n c m : Nat} {l : List FL} (h : FieldsV w A n c l) (hm : m ≤ n) : FieldsV w A m c (l.take m) := by
  obtain ⟨h1, h2, h3⟩ := h
  refine ⟨by rw [List.length_take]; omega, by omega, fun hp => ?_⟩
  obtain ⟨g, o, e, hc⟩ := h3 (by omega)
  refine ⟨g, o, e, fun i f hf => hc i f ?_⟩
  rw [List.getElem?_take] at hf
  split at hf
  · exact hf
  · cases hf
set_option maxRecDepth 100000 in
set_option maxHeartbeats 16000000 in
theorem known_walk (w : World) (hw : LW w) : Calls Tryd.prog 6 #[] w fun e w' => e = .returned (.bool true) ∧ Keeps [] w w' := by
  have HW := Lib.hid hw
  have HTH := Lib.hid (there_alloc_new w zeros18 43 18 rfl)
  have HST := Lib.hid (store_new w zeros18 wrongs18 43 18 rfl rfl)
  clear hw
  go_enter Tryd.func6, Tryd.ntmps6
  go_wp2_with (refine wpList_store_mid rfl 43 (.tmp 1) (.tmp 22) rfl w.heap.size 0 wrongs18.toArray rfl rfl HTH.out (by kernel_rfl) (by kernel_rfl) ?_; refine wpl_gn fun w1 hw1 => ?_; obtain ⟨hra, k1⟩ := HST.out w1 hw1; obtain ⟨ab, hab⟩ : ∃ ab, w.heap.size = ab := ⟨_, rfl⟩; rw [hab] at hra ⊢; clear hw1 hab HST HTH)
  have HRA := Lib.hid hra
  have HK1 := Lib.hid k1
  clear hra k1
  go_loopg [2] 18 (fun g iv wx => ∃ i : Nat, iv = .int .i64 i ∧ i ≤ 18 ∧ g = 18 - i ∧ Hid (Keeps [] w1 wx))
  case atStart => exact ⟨0, rfl, by omega, by omega, Lib.hid (Keeps.refl _ _)⟩
  case round =>
    obtain ⟨i, rfl, hi, hg, HKR⟩ := hrel
    subst hg
    rcases Nat.lt_or_ge i 18 with hlt | hge
    · have hltI : (i : Int) < 18 := by omega
      have hi0 : (0 : Int) ≤ (i : Int) := by omega
      obtain ⟨s, hs⟩ : ∃ s, wrongsL[i]? = some s := ⟨_, List.getElem?_eq_getElem (by show i < 18; exact hlt)⟩
      have hgd : wrongsL.getD i [] = s := by rw [List.getD_eq_getElem?_getD, hs]; rfl
      have hsl : 1 ≤ s.length ∧ s.length ≤ 100 := by
        have h1 := List.all_eq_true.1 wrongs_len s (List.mem_of_getElem? hs)
        simpa using h1
      have hcell : wr.cell? ⟨ab, i, none⟩ = some (.string (bs s)) := by
        have h1 := HRA.out i (.string (bs s)) (by rw [wrongs18_eq, List.getElem?_map, hs]; rfl)
        rw [Nat.zero_add] at h1
        exact cell_keeps HKR.out h1 (by simp)
      have hfac := List.all_eq_true.1 wrongs_all i (List.mem_range.2 hlt)
      simp only [hgd] at hfac
      have HFAC := Lib.hid hfac
      clear hfac hgd hs
      by_cases h14 : i = 14
      · subst h14
        go_wp2_with fail
        go_roundg 3
        case measure => omega
        case rel => exact ⟨15, by rfl, by omega, rfl, HKR⟩
      · have h14b : ((i : Int) != 14) = true := by simp; omega
        have hl1 : lookedB s 3 [] = true ∧ lookedB (s.take (s.length - 1)) 0 [] = true := by
          have h1 := HFAC.out
          simp [h14] at h1
          exact h1
        have HL1 := Lib.hid (looked_any wr (HW.out.keep0 (HK1.out.trans HKR.out)) s [] (by omega) 3)
        rw [hl1.1] at HL1
        have hsz : (bs s).size = s.length := rfl
        obtain ⟨m, hm⟩ : ∃ m, s.length = m + 1 := ⟨s.length - 1, by omega⟩
        have hsub : (bs s).extract 0 m = bs (s.take m) := by apply ByteArray.ext; simp [bs]
        rw [hm] at hsz
        have HL2 := Lib.hid (fun (x : World) (k : Keeps [] wr x) => looked_any x (HW.out.keep0 ((HK1.out.trans HKR.out).trans k)) (s.take m) [] (by simp; omega) 0)
        rw [show s.take m = s.take (s.length - 1) by rw [hm]; rfl, hl1.2, show s.take (s.length - 1) = s.take m by rw [hm]; rfl] at HL2
        clear h14 hl1
        go_wp2_with fail
        refine HL1.out.mono ?_
        rintro e w2 ⟨rfl, k2⟩
        have HK2 := Lib.hid (HKR.out.trans k2)
        have HL3 := Lib.hid (HL2.out w2 k2)
        clear k2 HL1 HL2
        go_wp2_with fail
        refine HL3.out.mono ?_
        rintro e w3 ⟨rfl, k3⟩
        have HK3 := Lib.hid (HK2.out.trans k3)
        clear k3 HL3
        go_wp2_with fail
        go_roundg (18 - (i + 1))
        case measure => omega
        case rel => exact ⟨i + 1, by go_num, by omega, rfl, HK3⟩
    · have hie : i = 18 := by omega
      subst hie
      have HRP := Lib.hid (rep_any wr 97 253 (by omega))
      have HK2 := Lib.hid (HK1.out.trans HKR.out)
      clear HRA
      go_wp2_with fail
      refine HRP.out.mono ?_
      rintro e w3 ⟨rfl, k3⟩
      have HK3 := Lib.hid (HK2.out.trans k3)
      rw [show Lib.repeatL [97] 253 = longL from rfl]
      clear k3 HRP
      obtain ⟨bb, hib, hbb⟩ := Tryd.infoField
      obtain ⟨i0, hi0, hz0, hz1, hz2⟩ := info_parts hib
      go_wp2_with (refine wpList_make_full w3 rfl _ _ 30 rfl w3.heap.size 32 i0 (.agg #[.string ByteArray.empty, .string ByteArray.empty]) 2 Tryd.underlying30 hi0 hz0 hz1 .i64 .i64 101 101 101 rfl rfl rfl rfl (by rw [hz2]; omega) (by simp only [maxLen]; omega) (Nat.le_refl _) ?_; intro w4 hown hgr)
      have HK4 := Lib.hid (HK3.out.trans (Keeps.grown0 hgr))
      obtain ⟨mb, hmb⟩ : ∃ mb, w3.heap.size = mb := ⟨_, rfl⟩
      rw [hmb] at hown ⊢
      have hma : manyAt w4 mb 0 := by
        rcases hown.2 with ⟨h0, _⟩ | ⟨g, cap, cur, he, _, hh, _, _, hs, ht⟩
        · cases h0
        · injection he with e1 e2 e3
          injection e1 with e1
          injection e1 with e1
          subst e1 e3
          exact ⟨cur, hh, by omega, fun j hj => by omega⟩
      have HMA := Lib.hid hma
      have HMB := Lib.hid hmb
      have hmw : w.heap.size ≤ mb := by rw [← hmb]; exact HK3.out.size
      clear hown hgr hib hi0 hz0 hz1 hz2 hma hmb
      go_wp2_with fail
      go_loopg [7] 101 (fun g iv wx => ∃ i : Nat, iv = .int .i64 i ∧ i ≤ 101 ∧ g = 101 - i ∧ Hid (manyAt wx mb i) ∧ Hid (Keeps [mb] w4 wx))
      case atStart => exact ⟨0, rfl, by omega, by omega, HMA, Lib.hid (Keeps.refl _ _)⟩
      case round =>
        obtain ⟨i, rfl, hi, hg, HM, HKR2⟩ := hrel
        subst hg
        rcases Nat.lt_or_ge i 101 with hlt | hge
        · have hltI : (i : Int) < 101 := by omega
          have hi0 : (0 : Int) ≤ (i : Int) := by omega
          obtain ⟨⟨v0, g0⟩, z0⟩ := HM.out.cell (k := i * 2) (by omega)
          obtain ⟨⟨v1, g1⟩, z1⟩ := HM.out.cell (k := i * 2 + 1) (by omega)
          have HP := Lib.hid (HM.out.put hlt)
          go_wp2_with fail
          go_roundg (101 - (i + 1))
          case measure => omega
          case rel => exact ⟨i + 1, by go_num, by omega, rfl, Lib.hid HP.out.1, Lib.hid (HKR2.out.trans HP.out.2)⟩
        · have hie : i = 101 := by omega
          subst hie
          have HKW := Lib.hid (show Keeps [] w wr from ((HK4.out.mono (T := [mb]) (by simp)).trans HKR2.out).fresh (fun x hx hl => by simp at hx; omega))
          have HFM := Lib.hid HM.out.fields
          have HSH := Lib.hid (show ∀ f ∈ manyL, f.1.length ≤ 1 ∧ f.2.length ≤ 1 from fun f hf => by
            rw [List.eq_of_mem_replicate hf]; simp)
          have hmL : manyL.length = 101 := by simp [manyL]
          have HQ0 := Lib.hid (request_any wr (HW.out.keep0 HKW.out) [] (some ⟨mb, 0, none⟩) 101 101 manyL HFM.out (by omega) (fun f hf => by have := HSH.out f hf; omega) (fun f hf => eqHost_short (by have := HSH.out f hf; omega)))
          rw [rq0] at HQ0
          clear HM HKR2 HMA HMB hmL
          go_wp2_with fail
          refine HQ0.out.mono ?_
          rintro e w5 ⟨v5, rfl, -, k5⟩
          have HK5 := Lib.hid (HKW.out.trans k5)
          have HFM5 := Lib.hid ((HFM.out.keep0 k5).cut (show 100 ≤ 101 by omega))
          have HQ1 := Lib.hid (request_any w5 (HW.out.keep0 (HKW.out.trans k5)) [] (some ⟨mb, 0, none⟩) 100 101 (manyL.take 100) HFM5.out (by omega) (fun f hf => by have := HSH.out f (List.mem_of_mem_take hf); omega) (fun f hf => eqHost_short (by have := HSH.out f (List.mem_of_mem_take hf); omega)))
          rw [rq1] at HQ1
          clear k5 HQ0 HFM
          go_wp2_with fail
          refine HQ1.out.mono ?_
          rintro e w6 ⟨v6, rfl, -, k6⟩
          have HK6 := Lib.hid (HK5.out.trans k6)
          have HQ2 := Lib.hid (request_any w6 (HW.out.keep0 (HK5.out.trans k6)) [46] none 0 0 [] ⟨rfl, by omega, fun h => by omega⟩ (by omega) (by simp) (by simp))
          rw [rq2] at HQ2
          clear k6 HQ1 HFM5
          go_wp2_with fail
          refine HQ2.out.mono ?_
          rintro e w7 ⟨v7, rfl, -, k7⟩
          have HK7 := Lib.hid (HK6.out.trans k7)
          clear k7 HQ2
          go_wp2_with fail
          refine calls_gn fun x8 hx8 => ?_
          have kx8 : Keeps [] w7 x8 := by rw [hx8]; exact Keeps.alloc [] w7 _
          have hf8 : FieldsV x8 (some ⟨w7.heap.size, 0, none⟩) 1 1 [([104, 79, 83, 84], [98])] := field_one (t := 32) (z := (0, 0)) (by rw [hx8]; exact (MapKept.heap_alloc w7 _).1)
          have HQ8 := Lib.hid (request_any x8 (HW.out.keep0 (HK7.out.trans kx8)) [97] (some ⟨w7.heap.size, 0, none⟩) 1 1 [([104, 79, 83, 84], [98])] hf8 (by omega) (by simp [longB_len]) (fun f hf => eqHost_short (by simp at hf; rw [hf]; simp)))
          rw [rq3] at HQ8
          have HX8 := Lib.hid kx8
          clear hx8 kx8 hf8
          refine HQ8.out.mono ?_
          rintro e w8 ⟨v8, rfl, -, k8⟩
          have HK8 := Lib.hid ((HK7.out.trans HX8.out).trans k8)
          clear k8 HQ8
          go_wp2_with fail
          refine calls_gn fun x9 hx9 => ?_
          have kx9 : Keeps [] w8 x9 := by rw [hx9]; exact Keeps.alloc [] w8 _
          have hf9 : FieldsV x9 (some ⟨w8.heap.size, 0, none⟩) 1 1 [([], [98])] := field_one (t := 32) (z := (0, 0)) (by rw [hx9]; exact (MapKept.heap_alloc w8 _).1)
          have HQ9 := Lib.hid (request_any x9 (HW.out.keep0 (HK8.out.trans kx9)) [97] (some ⟨w8.heap.size, 0, none⟩) 1 1 [([], [98])] hf9 (by omega) (by simp [longB_len]) (fun f hf => eqHost_short (by simp at hf; rw [hf]; simp)))
          rw [rq4] at HQ9
          have HX9 := Lib.hid kx9
          clear hx9 kx9 hf9
          refine HQ9.out.mono ?_
          rintro e w9 ⟨v9, rfl, -, k9⟩
          have HK9 := Lib.hid ((HK8.out.trans HX9.out).trans k9)
          clear k9 HQ9
          go_wp2_with fail
          refine calls_gn fun x10 hx10 => ?_
          have kx10 : Keeps [] w9 x10 := by rw [hx10]; exact Keeps.alloc [] w9 _
          have hf10 : FieldsV x10 (some ⟨w9.heap.size, 0, none⟩) 1 1 [([97], [13])] := field_one (t := 32) (z := (0, 0)) (by rw [hx10]; exact (MapKept.heap_alloc w9 _).1)
          have HQ10 := Lib.hid (request_any x10 (HW.out.keep0 (HK9.out.trans kx10)) [97] (some ⟨w9.heap.size, 0, none⟩) 1 1 [([97], [13])] hf10 (by omega) (by simp [longB_len]) (fun f hf => eqHost_short (by simp at hf; rw [hf]; simp)))
          rw [rq5] at HQ10
          have HX10 := Lib.hid kx10
          clear hx10 kx10 hf10
          refine HQ10.out.mono ?_
          rintro e w10 ⟨v10, rfl, -, k10⟩
          have HK10 := Lib.hid ((HK9.out.trans HX10.out).trans k10)
          clear k10 HQ10
          have HRB := Lib.hid (rep_any w10 98 1001 (by omega))
          rw [show Lib.repeatL [98] 1001 = longB from rfl] at HRB
          go_wp2_with fail
          refine HRB.out.mono ?_
          rintro e w11 ⟨rfl, k11⟩
          have HK11 := Lib.hid (HK10.out.trans k11)
          clear k11 HRB
          go_wp2_with fail
          refine calls_gn fun x12 hx12 => ?_
          have kx12 : Keeps [] w11 x12 := by rw [hx12]; exact Keeps.alloc [] w11 _
          have hf12 : FieldsV x12 (some ⟨w11.heap.size, 0, none⟩) 1 1 [([97], longB)] := field_one (t := 32) (z := (0, 0)) (by rw [hx12]; exact (MapKept.heap_alloc w11 _).1)
          have HQ12 := Lib.hid (request_any x12 (HW.out.keep0 (HK11.out.trans kx12)) [97] (some ⟨w11.heap.size, 0, none⟩) 1 1 [([97], longB)] hf12 (by omega) (by simp [longB_len]) (fun f hf => eqHost_short (by simp at hf; rw [hf]; simp)))
          rw [rq6] at HQ12
          have HX12 := Lib.hid kx12
          clear hx12 kx12 hf12
          refine HQ12.out.mono ?_
          rintro e w12 ⟨v12, rfl, -, k12⟩
          have HK12 := Lib.hid ((HK11.out.trans HX12.out).trans k12)
          clear k12 HQ12
          have hls : (bs longL).size = 253 := by rw [bs_size]; exact longL_len
          have ap0 : (⟨#[71, 69, 84, 32, 47, 32, 72, 84, 84, 80, 47, 49, 46, 49, 13, 10, 72, 111, 115, 116, 58, 32]⟩ : ByteArray) ++ bs longL = bs (headL ++ longL) := by apply ByteArray.ext; simp [bs, headL]
          have ap1 : bs (headL ++ longL) ++ (⟨#[97]⟩ : ByteArray) = bs (headL ++ longL ++ [97]) := by apply ByteArray.ext; simp [bs, headL]
          have ap2 : bs (headL ++ longL) ++ (⟨#[13, 10]⟩ : ByteArray) = bs (headL ++ longL ++ [13, 10]) := by apply ByteArray.ext; simp [bs, headL]
          have az0 : (bs (headL ++ longL)).size = 275 := by rw [bs_size, List.length_append, longL_len]; rfl
          have HL13 := Lib.hid (looked_any w12 (HW.out.keep0 HK12.out) [71, 69, 84, 32, 104, 116, 116, 112, 58, 47, 47, 97, 58] [] (by simp [headL]) 0)
          rw [kn0] at HL13
          go_wp2_with fail
          refine HL13.out.mono ?_
          rintro e w13 ⟨rfl, k13⟩
          have HK13 := Lib.hid (HK12.out.trans k13)
          clear k13 HL13
          have HL14 := Lib.hid (looked_any w13 (HW.out.keep0 HK13.out) [71, 69, 84, 32, 104, 116, 116, 112, 58, 47, 47, 97, 58, 32] [] (by simp [headL]) 3)
          rw [kn1] at HL14
          go_wp2_with fail
          refine HL14.out.mono ?_
          rintro e w14 ⟨rfl, k14⟩
          have HK14 := Lib.hid (HK13.out.trans k14)
          clear k14 HL14
          have HL15 := Lib.hid (looked_any w14 (HW.out.keep0 HK14.out) (headL ++ longL) [] (by simp [headL, longL_len]) 0)
          rw [kn2] at HL15
          go_wp2_with fail
          refine HL15.out.mono ?_
          rintro e w15 ⟨rfl, k15⟩
          have HK15 := Lib.hid (HK14.out.trans k15)
          clear k15 HL15
          have HL16 := Lib.hid (looked_any w15 (HW.out.keep0 HK15.out) (headL ++ longL ++ [97]) [] (by simp [headL, longL_len]) 3)
          rw [kn3] at HL16
          go_wp2_with fail
          refine HL16.out.mono ?_
          rintro e w16 ⟨rfl, k16⟩
          have HK16 := Lib.hid (HK15.out.trans k16)
          clear k16 HL16
          have HL17 := Lib.hid (looked_any w16 (HW.out.keep0 HK16.out) (headL ++ longL ++ [13, 10]) longL (by simp [headL, longL_len]) 1)
          rw [kn4] at HL17
          go_wp2_with fail
          refine HL17.out.mono ?_
          rintro e w17 ⟨rfl, k17⟩
          have HK17 := Lib.hid (HK16.out.trans k17)
          clear k17 HL17
          have HL18 := Lib.hid (looked_any w17 (HW.out.keep0 HK17.out) (headL ++ [97, 58, 54, 53, 53, 51, 53, 13, 10]) [97] (by simp [headL]) 1)
          rw [kn5] at HL18
          go_wp2_with fail
          refine HL18.out.mono ?_
          rintro e w18 ⟨rfl, k18⟩
          have HK18 := Lib.hid (HK17.out.trans k18)
          clear k18 HL18
          have HL19 := Lib.hid (looked_any w18 (HW.out.keep0 HK18.out) (headL ++ [97, 58, 54, 53, 53, 51, 54]) [] (by simp [headL]) 3)
          rw [kn6] at HL19
          go_wp2_with fail
          refine HL19.out.mono ?_
          rintro e w19 ⟨rfl, k19⟩
          have HK19 := Lib.hid (HK18.out.trans k19)
          clear k19 HL19
          have HL20 := Lib.hid (looked_any w19 (HW.out.keep0 HK19.out) (headL ++ [97, 58, 48, 48, 48, 48, 48, 49]) [] (by simp [headL]) 3)
          rw [kn7] at HL20
          go_wp2_with fail
          refine HL20.out.mono ?_
          rintro e w20 ⟨rfl, k20⟩
          have HK20 := Lib.hid (HK19.out.trans k20)
          clear k20 HL20
          have HL21 := Lib.hid (looked_any w20 (HW.out.keep0 HK20.out) (headL ++ [13]) [] (by simp [headL]) 3)
          rw [kn8] at HL21
          go_wp2_with fail
          refine HL21.out.mono ?_
          rintro e w21 ⟨rfl, k21⟩
          have HK21 := Lib.hid (HK20.out.trans k21)
          clear k21 HL21
          have HL22 := Lib.hid (looked_any w21 (HW.out.keep0 HK21.out) [] [] (by simp [headL]) 0)
          rw [kn9] at HL22
          go_wp2_with fail
          refine HL22.out.mono ?_
          rintro e w22 ⟨rfl, k22⟩
          have HK22 := Lib.hid (HK21.out.trans k22)
          clear k22 HL22
          have HL23 := Lib.hid (looked_any w22 (HW.out.keep0 HK22.out) [65, 32, 47, 32, 72, 84, 84, 80, 47, 49, 46, 48, 13, 10, 72, 111, 115, 116, 120, 58, 32, 97, 46, 46, 98, 13, 10, 13, 10] [] (by simp [headL]) 2)
          rw [kn10] at HL23
          go_wp2_with fail
          refine HL23.out.mono ?_
          rintro e w23 ⟨rfl, k23⟩
          have HK23 := Lib.hid (HK22.out.trans k23)
          clear k23 HL23
          have HWK := Lib.hid (wakes_any w23 (HW.out.keep0 HK23.out))
          go_wp2_with fail
          refine HWK.out.mono ?_
          rintro e w30 ⟨rfl, k30⟩
          have HK30 := Lib.hid (HK23.out.trans k30)
          clear k30 HWK
          go_wp2_with fail
          go_ret
          exact ⟨rfl, HK30.out⟩
end Go.Proofs.YtjppfdilfcokeaaDoor
