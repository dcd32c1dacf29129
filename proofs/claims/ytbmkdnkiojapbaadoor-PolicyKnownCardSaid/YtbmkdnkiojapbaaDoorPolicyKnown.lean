/-
  The walk of the law PolicyKnown. Condition: the library's tables lie as the row lists them.
-/
import Derived.Test.YtbmkdnkiojapbaaDoorPolX
namespace Go.Proofs.YtbmkdnkiojapbaaDoor
open Go.RowKit Go.ChangeShapes Go.WideShapes Go.ChangeAt Go.Joins Go.Lib
set_option linter.unusedVariables false
set_option linter.unusedSimpArgs false

theorem wpl_gn {P : Program} {ops : Array Oper} {rest : List Oper} {a : Act} {w : World} {Q : Exit → Act → World → Prop} (h : ∀ W, W = w → wpList P ops Q rest a W) : wpList P ops Q rest a w := h w rfl
def zeros40 : List Value := [.string ⟨#[]⟩, .bool false, .int .u32 0, .int .u16 0, .string ⟨#[]⟩, .bool false, .int .u32 0, .int .u16 0, .string ⟨#[]⟩, .bool false, .int .u32 0, .int .u16 0, .string ⟨#[]⟩, .bool false, .int .u32 0, .int .u16 0, .string ⟨#[]⟩, .bool false, .int .u32 0, .int .u16 0, .string ⟨#[]⟩, .bool false, .int .u32 0, .int .u16 0, .string ⟨#[]⟩, .bool false, .int .u32 0, .int .u16 0, .string ⟨#[]⟩, .bool false, .int .u32 0, .int .u16 0, .string ⟨#[]⟩, .bool false, .int .u32 0, .int .u16 0, .string ⟨#[]⟩, .bool false, .int .u32 0, .int .u16 0]
def bads40 : List Value := [.string ⟨#[65]⟩, .bool false, .int .u32 1, .int .u16 1, .string ⟨#[42]⟩, .bool false, .int .u32 1, .int .u16 1, .string ⟨#[42, 46]⟩, .bool false, .int .u32 1, .int .u16 1, .string ⟨#[97, 46, 42]⟩, .bool false, .int .u32 1, .int .u16 1, .string ⟨#[97]⟩, .bool false, .int .u32 0, .int .u16 1, .string ⟨#[97]⟩, .bool false, .int .u32 1, .int .u16 0, .string ⟨#[97]⟩, .bool true, .int .u32 0, .int .u16 1, .string ⟨#[97]⟩, .bool false, .int .u32 3221225985, .int .u16 1, .string ⟨#[97]⟩, .bool false, .int .u32 167772169, .int .u16 1, .string ⟨#[42, 46, 42, 46, 97]⟩, .bool false, .int .u32 1, .int .u16 1]
theorem bads40_eq : bads40 = rowR bads := by rfl
theorem store_new (w : World) (zs cs : List Value) (t : TypeId) (n : Nat) (hz : zs.length = n) (hc : cs.length = n) : ∀ W, W = (w.alloc (.cells zs.toArray t)).setCells w.heap.size 0 cs → W.rangeAt w.heap.size 0 cs ∧ Keeps [] w W := by
  rintro W rfl
  exact ⟨World.rangeAt_setCells_same _ w.heap.size 0 cs (by rw [hc]; exact there_alloc_new w zs t n hz), Below.keeps (below_setCells' (Nat.le_refl _) cs 0 _ ((Below.refl w.heap.size w).alloc (Nat.le_refl _) (.cells zs.toArray t)))⟩
def tailN (j : Nat) : ByteArray := ⟨#[UInt8.ofNat (97 + j % 26), UInt8.ofNat (97 + j / 26)]⟩
theorem tail_conv (W : World) (j : Nat) (hj : j < 257) : (convert 58 9 (.slice (some ⟨W.heap.size, 0, none⟩) 2 2)).run Tryd.prog (W.alloc (.cells #[.int .u8 (97 + (j : Int) % 26), .int .u8 (97 + (j : Int) / 26)] 5)) = .ok (.string (tailN j)) (W.alloc (.cells #[.int .u8 (97 + (j : Int) % 26), .int .u8 (97 + (j : Int) / 26)] 5)) := by
  have hh := (MapKept.heap_alloc W (.cells #[.int .u8 (97 + (j : Int) % 26), .int .u8 (97 + (j : Int) / 26)] 5)).1
  have c0 := cell_of_block hh 0
  have c1 := cell_of_block hh 1
  refine run_convert_bytes_back _ 58 9 5 ⟨W.heap.size, 0, none⟩ 2 [UInt8.ofNat (97 + j % 26), UInt8.ofNat (97 + j / 26)] Tryd.underlying58 Tryd.underlying5 Tryd.underlying9 (fun k hk => ?_)
  have hk2 : k = 0 ∨ k = 1 := by simp at hk; omega
  rcases hk2 with rfl | rfl
  · rw [addr_at, c0]
    simp
    omega
  · rw [addr_at, c1]
    simp
    omega
theorem tail_cat (j : Nat) : (⟨#[97]⟩ : ByteArray) ++ tailN j = manyN j := by
  apply ba_ext
  rw [ByteArray.data_append, Array.toList_append]
  rfl
set_option maxRecDepth 100000 in
set_option maxHeartbeats 8000000 in
theorem known_walk (w : World) (hw : LW w) : Calls Tryd.prog 8 #[] w fun e w' => e = .returned (.bool true) ∧ Keeps [] w w' := by
  have HLW := Lib.hid (fun (W : World) (kz : Keeps [] w W) => hw.keep0 kz)
  have HWK := Lib.hid (fun (W : World) (kz : Keeps [] w W) => wakes_any W (hw.keep0 kz))
  clear hw
  go_enter Tryd.func8, Tryd.ntmps8
  go_wp2_with fail
  refine (find_nil _ _).mono ?_
  rintro e w1 ⟨rfl, k1⟩
  unfold encPR zeroPR
  have K1 := Lib.hid k1
  clear k1
  go_wp2_with fail
  refine calls_gn fun w2 hw2 => ?_
  have k2 : Keeps [] w1 w2 := by rw [hw2]; exact Keeps.alloc [] w1 _
  have K2 := Lib.hid (K1.out.trans k2)
  clear k2 hw2
  refine (where_nil _ _).mono ?_
  rintro e w3 ⟨rfl, k3⟩
  have K3 := Lib.hid (K2.out.trans k3)
  clear k3
  go_wp2_with fail
  refine (all_nil _).mono ?_
  rintro e w4 ⟨rfl, h4⟩
  obtain rfl := h4.symm
  go_wp2_with fail
  refine (config_any _).mono ?_
  rintro e w5 ⟨rfl, k5⟩
  have hcv : cfgV pc0 pcr0 = .agg conf19.toArray := rfl
  rw [hcv]
  have hth := there_alloc_new w5 zeros19 29 19 rfl
  have HTH := Lib.hid hth
  have HST := Lib.hid (store_new w5 zeros19 conf19 29 19 rfl rfl)
  clear hth
  go_wp2_with (first
    | (refine wpList_store_mid rfl 29 (.tmp 7) (.tmp 45) rfl w5.heap.size 0 conf19.toArray rfl rfl HTH.out (by kernel_rfl) (by kernel_rfl) ?_; refine wpl_gn fun w6 hw6 => ?_; obtain ⟨hra6, k6⟩ := HST.out w6 hw6; obtain ⟨cb, hcb⟩ : ∃ cb, w5.heap.size = cb := ⟨_, rfl⟩; rw [hcb] at hra6 ⊢; have hco := hra6 2 (.int .u32 3221225985) rfl; rw [Nat.zero_add] at hco; have HRA6 := Lib.hid hra6; have K6 := Lib.hid ((K3.out.trans k5).trans k6); have HTH2 := Lib.hid (there_alloc_new w6 zeros40 57 40 rfl); have HST2 := Lib.hid (store_new w6 zeros40 bads40 57 40 rfl rfl); clear hra6 k6 hw6 hcb HST HTH k5)
    | (refine wpList_store_mid rfl 57 (.tmp 8) (.tmp 58) rfl w6.heap.size 0 bads40.toArray rfl rfl HTH2.out (by kernel_rfl) (by kernel_rfl) ?_; refine wpl_gn fun w7 hw7 => ?_; obtain ⟨hra7, k7⟩ := HST2.out w7 hw7; obtain ⟨ab, hab⟩ : ∃ ab, w6.heap.size = ab := ⟨_, rfl⟩; rw [hab] at hra7 ⊢; clear hw7 hab HST2 HTH2 hco))
  rw [bads40_eq] at hra7
  have K7 := Lib.hid (K6.out.trans k7)
  have HRA7 := Lib.hid (fun (W : World) (kz : Keeps [] w7 W) => rangeAt_keeps (k7.trans kz) HRA6.out (by simp))
  have HBAD := Lib.hid (fun (W : World) (kz : Keeps [] w7 W) (i : Nat) (x : PR) (hx : bads[i]? = some x) => show RulesAt W (some ⟨ab, i * 4, none⟩) [x] from by
    have key : ∀ j u, j < 4 → (cellsR x)[j]? = some u → W.cell? ⟨ab, i * 4 + j, none⟩ = some u := fun j u hj hu => by
      refine cell_keeps kz ?_ (by simp)
      have := hra7 (i * 4 + j) u (by rw [rowR_at bads i hx j hj]; exact hu)
      rwa [Nat.zero_add] at this
    refine .inr ⟨ab, i * 4, rfl, fun a y hy => ?_⟩
    have ha : a = 0 := by have := (List.getElem?_eq_some_iff.1 hy).1; simp at this; exact this
    subst ha
    simp at hy
    subst hy
    simp only [Nat.zero_mul, Nat.add_zero]
    exact ⟨key 0 _ (by omega) rfl, key 1 _ (by omega) rfl, key 2 _ (by omega) rfl, key 3 _ (by omega) rfl⟩)
  have HMAY := Lib.hid (fun (W : World) (kz : Keeps [] w W) (B : Option Addr) (i j : Nat) (ll : List PR) => may_any W (HLW.out _ kz) pc0 pcr0 B i j ll)
  have HNEW := Lib.hid (fun (W : World) (kz : Keeps [] w W) (B : Option Addr) (i j : Nat) (ll : List PR) => new_ok W (HLW.out _ kz) pc0 pcr0 B i j ll)
  rw [show cfgV pc0 pcr0 = .agg conf19.toArray from rfl] at HMAY HNEW
  clear hra7 k7 HRA6 K6
  go_loopw [9] (fun iv wr => ∃ i : Nat, iv = .int .i64 i ∧ i ≤ 10 ∧ Keeps [] w7 wr) (fun iv _ => 10 - (intOf iv).toNat)
  case atStart => exact ⟨0, rfl, by omega, Keeps.refl _ _⟩
  case round =>
    obtain ⟨i, rfl, hi, hkr⟩ := hrel
    have KR := Lib.hid hkr
    clear hkr
    by_cases hlt : i < 10
    · have hlt' : (i : Int) < 10 := by omega
      have hi0 : (0 : Int) ≤ i := by omega
      have hi1 : (i : Int) + 1 ≤ 10 := by omega
      have hw1 : IntKind.i64.wrap ((i : Int) + 1) = (i : Int) + 1 := by simp [IntKind.wrap, IntKind.bits, IntKind.signed]; omega
      have hsl : ∀ W : World, (Instr.sliceAt 57 (.pointer (some ⟨ab, 0, none⟩)) (some (.int .i64 (i : Int))) (some (.int .i64 ((i : Int) + 1))) none).run Tryd.prog W = .ok (.slice (some ⟨ab, i * 4, none⟩) 1 (10 - i)) W := fun W => by
        have e1 : Tryd.prog.arrayLen 57 = 10 := by kernel_rfl
        have e2 : Tryd.prog.elem 57 = 35 := by kernel_rfl
        rw [run_sliceAt_array_lh W 57 ⟨ab, 0, none⟩ (by kernel_rfl) .i64 .i64 i ((i : Int) + 1) hi0 (by omega) (by rw [e1]; omega), e1, e2, Tryd.sizeOf35]
        have e3 : ((i : Int) + 1).toNat = i + 1 := by omega
        have e4 : ¬ 10 = i := by omega
        have e5 : i + 1 - i = 1 := by omega
        simp only [Result.andThen_ok, slicedAt, Int.toNat_natCast, e3, if_neg e4, addr_at, e5]
      obtain ⟨x, hx⟩ : ∃ x, bads[i]? = some x := ⟨_, List.getElem?_eq_getElem (by show i < 10; exact hlt)⟩
      have HX := Lib.hid hx
      clear hx
      go_wp2_with fail
      refine wp_region_held_drew (S := fun W => Keeps [] wr W) (by kernel_rfl) ?hS0 (fun hHeld => ?_)
      case hS0 => exact (Keeps.refl [] _).drew'
      refine wpAnyH_take (i := 0) (oi := _) (v := .agg conf19.toArray) rfl (by kernel_rfl) (by kernel_rfl) (by kernel_rfl) (fun _ _ _ h => h)
        (yieldsIf_load_mid (by rfl) 29 (.tmp 7) rfl cb 0 rfl conf19 _ (fun W h => HRA7.out _ (KR.out.trans h)) Tryd.underlying29 rfl (by kernel_rfl)) (by assumption) ?_
      try simp only [List.getElem_toArray, List.getElem_cons_zero, List.getElem_cons_succ, Act.put, List.setIfInBounds_toArray, List.set_cons_zero, List.set_cons_succ]
      refine wpAnyH_take (i := 1) (oi := _) (v := ?va1) rfl (by kernel_rfl) (by kernel_rfl) (by kernel_rfl) (fun _ _ _ h => h) (Or.inl ⟨by rfl, ?hya1⟩) (by assumption) ?resta1
      case hya1 => (intro w hSw; (try dsimp only at hSw); go_simp; try (with_reducible rfl))
      try simp only [List.getElem_toArray, List.getElem_cons_zero, List.getElem_cons_succ, Act.put, List.setIfInBounds_toArray, List.set_cons_zero, List.set_cons_succ]
      refine wpAnyH_take (i := 2) (oi := _) (v := ?va2) rfl (by kernel_rfl) (by kernel_rfl) (by kernel_rfl) (fun _ _ _ h => h) (Or.inl ⟨by rfl, ?hya2⟩) (by assumption) ?resta2
      case hya2 => (intro w hSw; (try dsimp only at hSw); go_simp; try (with_reducible rfl))
      try simp only [List.getElem_toArray, List.getElem_cons_zero, List.getElem_cons_succ, Act.put, List.setIfInBounds_toArray, List.set_cons_zero, List.set_cons_succ]
      refine wpAnyH_take (i := 3) (oi := _) (v := ?va3) rfl (by kernel_rfl) (by kernel_rfl) (by kernel_rfl) (fun _ _ _ h => h) (Or.inl ⟨by rfl, ?hya3⟩) (by assumption) ?resta3
      case hya3 => (intro w hSw; (try dsimp only at hSw); go_simp; try (with_reducible rfl))
      try simp only [List.getElem_toArray, List.getElem_cons_zero, List.getElem_cons_succ, Act.put, List.setIfInBounds_toArray, List.set_cons_zero, List.set_cons_succ]
      refine wpAnyH_take (i := 4) (oi := _) (v := ?va4) rfl (by kernel_rfl) (by kernel_rfl) (by kernel_rfl) (fun _ _ _ h => h) (Or.inl ⟨by rfl, ?hya4⟩) (by assumption) ?resta4
      case hya4 => (intro w hSw; (try dsimp only at hSw); go_simp; try (with_reducible rfl))
      try simp only [List.getElem_toArray, List.getElem_cons_zero, List.getElem_cons_succ, Act.put, List.setIfInBounds_toArray, List.set_cons_zero, List.set_cons_succ]
      refine wpAnyH_ready (rs := [5]) (by kernel_rfl) (by simp) ?_
      refine AllReadyH.cons (o := _) rfl (fun K hK => ?_) AllReadyH.nil
      simp only [List.getElem_toArray, List.getElem_cons_zero, List.getElem_cons_succ]
      go_simp
      have HMX := HMAY.out _ (K7.out.trans KR.out).drew' (some ⟨ab, i * 4, none⟩) 1 (10 - i) [x] rfl (HBAD.out _ KR.out.drew' i x HX.out) (by omega)
      rw [bads_bad x (List.mem_of_getElem? HX.out)] at HMX
      refine HMX.mono ?_
      clear HMX
      rintro e wk ⟨rfl, kk⟩
      refine hK.out _ _ ((Keeps.refl [] _).drew'.trans kk) (fun hHeld2 => ?_)
      have KK := Lib.hid (KR.out.drew'.trans kk)
      clear hK K kk hHeld hHeld2
      try simp only [List.getElem_toArray, List.getElem_cons_zero, List.getElem_cons_succ, Act.put, List.setIfInBounds_toArray, List.set_cons_zero, List.set_cons_succ]
      refine wpAnyH_done (by kernel_rfl) ?_ _
      go_wp2_with fail
      exact ⟨⟨i + 1, by simp, by omega, KK.out⟩, by simp [intOf]; omega⟩
    · obtain rfl : i = 10 := by omega
      have hlt' : ¬ (((10 : Nat) : Int)) < 10 := by omega
      go_wp2_with fail
      have HRAW := Lib.hid (fun (W : World) (kz : Keeps [] wr W) => HRA7.out W (KR.out.trans kz))
      have KW := Lib.hid (K7.out.trans KR.out)
      clear HRA7 HBAD KR K7 hlt' hlt hi
      obtain ⟨wz, rfl⟩ : ∃ wz, wz = wr := ⟨_, rfl⟩
      go_loopw [10, 11] (fun mv iv ww => ∃ j : Nat, iv = .int .i64 j ∧ j ≤ 257 ∧ Hid (OwnR ww wz.heap.size mv (many j) ∧ Keeps [] wz ww)) (fun _ iv _ => 257 - (intOf iv).toNat)
      case atStart => exact ⟨0, rfl, by omega, Lib.hid ⟨OwnR.nil _ _, Keeps.refl _ _⟩⟩
      case round =>
        obtain ⟨j, rfl, hj, HI⟩ := hrel
        by_cases hlt : j < 257
        · have hlt' : (j : Int) ≤ 256 := by omega
          have hj0 : (0 : Int) ≤ j := by omega
          have htc := tail_conv wr j hlt
          have htk := tail_cat j
          obtain ⟨tl, htl⟩ : ∃ tl, tailN j = tl := ⟨_, rfl⟩
          have htz : tl.size ≤ 1000 := by rw [← htl]; show 2 ≤ 1000; omega
          obtain ⟨nm, hnm⟩ : ∃ nm, manyN j = nm := ⟨_, rfl⟩
          rw [htl] at htc htk
          rw [hnm] at htk
          obtain ⟨w1, hw1⟩ : ∃ W, wr.alloc (.cells #[.int .u8 (97 + (j : Int) % 26), .int .u8 (97 + (j : Int) / 26)] 5) = W := ⟨_, rfl⟩
          have RUL := Lib.hid (show RulesAt (w1.alloc (.cells #[.string nm, .bool true, .int .u32 0, .int .u16 0] 35)) (some ⟨w1.heap.size, 0, none⟩) [manyR j] from by
            have := rules_one (MapKept.heap_alloc w1 (.cells #[.string nm, .bool true, .int .u32 0, .int .u16 0] 35)).1
            unfold manyR
            rw [hnm]
            exact this)
          have OWN := Lib.hid ((HI.out.1.alloc (.cells #[.int .u8 (97 + (j : Int) % 26), .int .u8 (97 + (j : Int) / 26)] 5)).alloc (.cells #[.string nm, .bool true, .int .u32 0, .int .u16 0] 35))
          have KJ := Lib.hid ((HI.out.2.alloc' (.cells #[.int .u8 (97 + (j : Int) % 26), .int .u8 (97 + (j : Int) / 26)] 5)).alloc' (.cells #[.string nm, .bool true, .int .u32 0, .int .u16 0] 35))
          rw [hw1] at OWN KJ htc
          clear htl hnm
          go_wp2_with (refine wpList_append_R (w0 := wz) rfl (.tmp 73) (.tmp 86) 26 rfl Tryd.underlying26 _ (many j) rfl OWN.out (some ⟨w1.heap.size, 0, none⟩) 1 1 [manyR j] rfl rfl RUL.out (by rw [many_len]; omega) KJ.out ?_; intro v' w' own' _ kk'; have OWN' := Lib.hid own'; have KK' := Lib.hid kk'; clear own' kk')
          exact ⟨⟨j + 1, by simp, by omega, Lib.hid ⟨by rw [many_next]; exact OWN'.out, KK'.out⟩⟩, by simp [intOf]; omega⟩
        · obtain rfl : j = 257 := by omega
          have hlt' : ¬ (((257 : Nat) : Int)) ≤ 256 := by omega
          go_wp2_with fail
          obtain ⟨MA, mc, rfl, hmr, hmc, hmm⟩ := HI.out.1.rules
          rw [many_len] at hmc ⊢
          obtain ⟨gb, go, rfl, _⟩ := hmr.resolve_left (by intro h; have := many_len 257; rw [h] at this; simp at this)
          have HMR := Lib.hid hmr
          have KR := Lib.hid HI.out.2
          have hm1 : ¬ (mc = 1) := by omega
          have hm2 : (1 : Int) ≤ mc := by omega
          have hm3 : (1 : Int) ≤ ((257 : Nat) : Int) := by omega
          have hm4 : ((257 : Nat) : Int) ≤ mc := by omega
          clear hmr HI hmc hmm hlt' hlt hj
          refine wp_region_held_drew (S := fun W => Keeps [] wr W) (by kernel_rfl) ?hSr0 (fun hHeld => ?_)
          case hSr0 => exact (Keeps.refl [] _).drew'
          refine wpAnyH_take (i := 0) (oi := _) (v := .agg conf19.toArray) rfl (by kernel_rfl) (by kernel_rfl) (by kernel_rfl) (fun _ _ _ h => h)
            (yieldsIf_load_mid (by rfl) 29 (.tmp 7) rfl cb 0 rfl conf19 _ (fun W h => HRAW.out _ (KR.out.trans h)) Tryd.underlying29 rfl (by kernel_rfl)) (by assumption) ?_
          try simp only [List.getElem_toArray, List.getElem_cons_zero, List.getElem_cons_succ, Act.put, List.setIfInBounds_toArray, List.set_cons_zero, List.set_cons_succ]
          refine wpAnyH_take (i := 1) (oi := _) (v := ?vb1) rfl (by kernel_rfl) (by kernel_rfl) (by kernel_rfl) (fun _ _ _ h => h) (Or.inl ⟨by rfl, ?hyb1⟩) (by assumption) ?restb1
          case hyb1 => (intro w hSw; (try dsimp only at hSw); go_simp; try (with_reducible rfl))
          try simp only [List.getElem_toArray, List.getElem_cons_zero, List.getElem_cons_succ, Act.put, List.setIfInBounds_toArray, List.set_cons_zero, List.set_cons_succ]
          refine wpAnyH_take (i := 2) (oi := _) (v := ?vb2) rfl (by kernel_rfl) (by kernel_rfl) (by kernel_rfl) (fun _ _ _ h => h) (Or.inl ⟨by rfl, ?hyb2⟩) (by assumption) ?restb2
          case hyb2 => (intro w hSw; (try dsimp only at hSw); go_simp; try (with_reducible rfl))
          try simp only [List.getElem_toArray, List.getElem_cons_zero, List.getElem_cons_succ, Act.put, List.setIfInBounds_toArray, List.set_cons_zero, List.set_cons_succ]
          refine wpAnyH_ready (rs := [3]) (by kernel_rfl) (by simp) ?_
          refine AllReadyH.cons (o := _) rfl (fun K hK => ?_) AllReadyH.nil
          simp only [List.getElem_toArray, List.getElem_cons_zero, List.getElem_cons_succ]
          go_simp
          have hlen : ((many 257).drop 1).length = 256 := by rw [List.length_drop, many_len]
          have HNX := HNEW.out _ (KW.out.trans KR.out).drew' (some ⟨gb, go + 1 * 4, none⟩) 256 (mc - 1) ((many 257).drop 1) hlen ((HMR.out.drop 1).keep0 (Keeps.refl [] _).drew') (by omega) may_many
          refine HNX.mono ?_
          clear HNX
          rintro e w8 ⟨tb, tmb, rfl, ht8, k8, hs1, hs2⟩
          refine hK.out _ _ ((Keeps.refl [] _).drew'.trans k8) (fun hHeld2 => ?_)
          have K8 := Lib.hid (show Keeps [] wr w8 from (Keeps.refl [] _).drew'.trans k8)
          have HT8 := Lib.hid ht8
          clear hK K k8 hs1 hs2 ht8 hlen
          try simp only [List.getElem_toArray, List.getElem_cons_zero, List.getElem_cons_succ, Act.put, List.setIfInBounds_toArray, List.set_cons_zero, List.set_cons_succ]
          refine wpAnyH_take (i := 4) (oi := _) (v := ?vb4) rfl (by kernel_rfl) (by kernel_rfl) (by kernel_rfl) (fun _ _ _ h => h) (Or.inl ⟨by rfl, ?hyb4⟩) (by assumption) ?restb4
          case hyb4 => (intro w hSw; (try dsimp only at hSw); go_simp; try (with_reducible rfl))
          try simp only [List.getElem_toArray, List.getElem_cons_zero, List.getElem_cons_succ, Act.put, List.setIfInBounds_toArray, List.set_cons_zero, List.set_cons_succ]
          refine wpAnyH_take (i := 5) (oi := _) (v := ?vb5) rfl (by kernel_rfl) (by kernel_rfl) (by kernel_rfl) (fun _ _ _ h => h) (Or.inl ⟨by rfl, ?hyb5⟩) (by assumption) ?restb5
          case hyb5 => (intro w hSw; (try dsimp only at hSw); go_simp; try (with_reducible rfl))
          try simp only [List.getElem_toArray, List.getElem_cons_zero, List.getElem_cons_succ, Act.put, List.setIfInBounds_toArray, List.set_cons_zero, List.set_cons_succ]
          refine wpAnyH_take (i := 6) (oi := _) (v := ?vb6) rfl (by kernel_rfl) (by kernel_rfl) (by kernel_rfl) (fun _ _ _ h => h) (Or.inl ⟨by rfl, ?hyb6⟩) (by assumption) ?restb6
          case hyb6 => (intro w hSw; (try dsimp only at hSw); go_simp; try (with_reducible rfl))
          try simp only [List.getElem_toArray, List.getElem_cons_zero, List.getElem_cons_succ, Act.put, List.setIfInBounds_toArray, List.set_cons_zero, List.set_cons_succ]
          refine wpAnyH_take (i := 7) (oi := _) (v := ?vb7) rfl (by kernel_rfl) (by kernel_rfl) (by kernel_rfl) (fun _ _ _ h => h) (Or.inl ⟨by rfl, ?hyb7⟩) (by assumption) ?restb7
          case hyb7 => (intro w hSw; (try dsimp only at hSw); go_simp; try (with_reducible rfl))
          try simp only [List.getElem_toArray, List.getElem_cons_zero, List.getElem_cons_succ, Act.put, List.setIfInBounds_toArray, List.set_cons_zero, List.set_cons_succ]
          refine wpAnyH_take (i := 8) (oi := _) (v := ?vb8) rfl (by kernel_rfl) (by kernel_rfl) (by kernel_rfl) (fun _ _ _ h => h) (Or.inl ⟨by rfl, ?hyb8⟩) (by assumption) ?restb8
          case hyb8 => (intro w hSw; (try dsimp only at hSw); go_simp; try (with_reducible rfl))
          try simp only [List.getElem_toArray, List.getElem_cons_zero, List.getElem_cons_succ, Act.put, List.setIfInBounds_toArray, List.set_cons_zero, List.set_cons_succ]
          refine wpAnyH_done (by kernel_rfl) ?_ _
          clear hHeld hHeld2
          have KW8 := Lib.hid ((KW.out.trans KR.out).trans K8.out)
          have HRA8 := Lib.hid (fun (W : World) (kz : Keeps [] w8 W) => HRAW.out W ((KR.out.trans K8.out).trans kz))
          have HMR8 := Lib.hid (HMR.out.keep0 K8.out)
          clear HRAW KW KR HMR K8
          go_wp2_with fail
          have HF1 := find_any w8 (HLW.out _ KW8.out) tb tmb _ HT8.out ⟨#[97, 97, 97]⟩
          rw [find_aaa] at HF1
          simp only [Option.getD_none, Option.isSome_none, encPR, zeroPR] at HF1
          refine HF1.mono ?_
          clear HF1
          rintro e w9 ⟨rfl, k9⟩
          have KW9 := Lib.hid (KW8.out.trans k9)
          have KR9 := Lib.hid k9
          clear k9
          go_wp2_with fail
          refine calls_gn fun wa hwa => ?_
          have ka : Keeps [] w9 wa := by rw [hwa]; exact Keeps.alloc [] w9 _
          have KWA := Lib.hid (KW9.out.trans ka)
          have KRA := Lib.hid (KR9.out.trans ka)
          clear ka hwa KW9 KR9
          have hab := find_aba
          obtain ⟨oa, hoa⟩ : ∃ oa, findT (tabL ((many 257).drop 1)) (foldB ⟨#[97, 98, 97]⟩) = oa := ⟨_, rfl⟩
          have HF2 := find_any wa (HLW.out _ KWA.out) tb tmb _ (HT8.out.keep0 KRA.out) ⟨#[97, 98, 97]⟩
          rw [hoa] at hab HF2
          obtain ⟨⟨yn, yd, ya, yp⟩, rfl⟩ := Option.isSome_iff_exists.1 hab
          simp only [Option.getD_some, Option.isSome_some, encPR] at HF2
          refine HF2.mono ?_
          clear HF2 hab hoa
          rintro e wb ⟨rfl, kb⟩
          have kx := Keeps.alloc [] wb (.cells #[.string yn, .bool yd, .int .u32 ya, .int .u16 yp] 35)
          have KWB := Lib.hid ((KWA.out.trans kb).trans kx)
          have KRB := Lib.hid ((KRA.out.trans kb).trans kx)
          clear kb kx KWA KRA
          go_wp2_with (refine wpList_load_want 29 (.tmp 7) rfl (by simp [Region.wanted, yielded]) cb 0 rfl _ _ (HRA8.out _ KRB.out) Tryd.underlying29 rfl (by kernel_rfl) ?_)
          refine (HNEW.out _ KWB.out none 0 0 [] rfl (.inl rfl) (by omega) may_none).mono ?_
          rintro e wc ⟨eb, emb, rfl, hec, kc, hs1, hs2⟩
          have KWC := Lib.hid (KWB.out.trans kc)
          have KRC := Lib.hid (KRB.out.trans kc)
          have HEC := Lib.hid hec
          clear kc hs1 hs2 hec KWB KRB
          go_wp2_with fail
          have HWH := where_any wc (HLW.out _ KWC.out) eb emb _ HEC.out ⟨#[]⟩
          rw [find_empty] at HWH
          simp only [whereT] at HWH
          refine HWH.mono ?_
          clear HWH
          rintro e wd ⟨rfl, kd⟩
          have KWD := Lib.hid (KWC.out.trans kd)
          have KRD := Lib.hid (KRC.out.trans kd)
          clear kd KWC KRC HEC
          go_wp2_with fail
          refine wp_region_held_drew (S := fun W => Keeps [] wd W) (by kernel_rfl) ?hSq0 (fun hHeld => ?_)
          case hSq0 => exact (Keeps.refl [] _).drew'
          refine wpAnyH_take (i := 0) (oi := _) (v := .agg conf19.toArray) rfl (by kernel_rfl) (by kernel_rfl) (by kernel_rfl) (fun _ _ _ h => h)
            (yieldsIf_load_mid (by rfl) 29 (.tmp 7) rfl cb 0 rfl conf19 _ (fun W h => HRA8.out _ (KRD.out.trans h)) Tryd.underlying29 rfl (by kernel_rfl)) (by assumption) ?_
          try simp only [List.getElem_toArray, List.getElem_cons_zero, List.getElem_cons_succ, Act.put, List.setIfInBounds_toArray, List.set_cons_zero, List.set_cons_succ]
          refine wpAnyH_take (i := 1) (oi := _) (v := ?vc1) rfl (by kernel_rfl) (by kernel_rfl) (by kernel_rfl) (fun _ _ _ h => h) (Or.inl ⟨by rfl, ?hyc1⟩) (by assumption) ?restc1
          case hyc1 => (intro w hSw; (try dsimp only at hSw); go_simp; try (with_reducible rfl))
          try simp only [List.getElem_toArray, List.getElem_cons_zero, List.getElem_cons_succ, Act.put, List.setIfInBounds_toArray, List.set_cons_zero, List.set_cons_succ]
          refine wpAnyH_ready (rs := [2]) (by kernel_rfl) (by simp) ?_
          refine AllReadyH.cons (o := _) rfl (fun K hK => ?_) AllReadyH.nil
          simp only [List.getElem_toArray, List.getElem_cons_zero, List.getElem_cons_succ]
          go_simp
          have HMX := HMAY.out _ KWD.out.drew' (some ⟨gb, go, none⟩) 257 mc (many 257) (many_len 257) (HMR8.out.keep0 KRD.out.drew') (by omega)
          rw [may_too] at HMX
          refine HMX.mono ?_
          clear HMX
          rintro e we ⟨rfl, ke⟩
          refine hK.out _ _ ((Keeps.refl [] _).drew'.trans ke) (fun hHeld2 => ?_)
          have KE := Lib.hid (show Keeps [] wd we from (Keeps.refl [] _).drew'.trans ke)
          clear hK K ke
          try simp only [List.getElem_toArray, List.getElem_cons_zero, List.getElem_cons_succ, Act.put, List.setIfInBounds_toArray, List.set_cons_zero, List.set_cons_succ]
          refine wpAnyH_take (i := 3) (oi := _) (v := ?vc3) rfl (by kernel_rfl) (by kernel_rfl) (by kernel_rfl) (fun _ _ _ h => h) (Or.inl ⟨by rfl, ?hyc3⟩) (by assumption) ?restc3
          case hyc3 => (intro w hSw; (try dsimp only at hSw); go_simp; try (with_reducible rfl))
          try simp only [List.getElem_toArray, List.getElem_cons_zero, List.getElem_cons_succ, Act.put, List.setIfInBounds_toArray, List.set_cons_zero, List.set_cons_succ]
          refine wpAnyH_take (i := 4) (oi := _) (v := ?vc4) rfl (by kernel_rfl) (by kernel_rfl) (by kernel_rfl) (fun _ _ _ h => h) (Or.inl ⟨by rfl, ?hyc4⟩) (by assumption) ?restc4
          case hyc4 => (intro w hSw; (try dsimp only at hSw); go_simp; try (with_reducible rfl))
          try simp only [List.getElem_toArray, List.getElem_cons_zero, List.getElem_cons_succ, Act.put, List.setIfInBounds_toArray, List.set_cons_zero, List.set_cons_succ]
          refine wpAnyH_take (i := 5) (oi := _) (v := ?vc5) rfl (by kernel_rfl) (by kernel_rfl) (by kernel_rfl) (fun _ _ _ h => h) (Or.inl ⟨by rfl, ?hyc5⟩) (by assumption) ?restc5
          case hyc5 => (intro w hSw; (try dsimp only at hSw); go_simp; try (with_reducible rfl))
          try simp only [List.getElem_toArray, List.getElem_cons_zero, List.getElem_cons_succ, Act.put, List.setIfInBounds_toArray, List.set_cons_zero, List.set_cons_succ]
          refine wpAnyH_take (i := 6) (oi := _) (v := ?vc6) rfl (by kernel_rfl) (by kernel_rfl) (by kernel_rfl) (fun _ _ _ h => h) (Or.inl ⟨by rfl, ?hyc6⟩) (by assumption) ?restc6
          case hyc6 => (intro w hSw; (try dsimp only at hSw); go_simp; try (with_reducible rfl))
          try simp only [List.getElem_toArray, List.getElem_cons_zero, List.getElem_cons_succ, Act.put, List.setIfInBounds_toArray, List.set_cons_zero, List.set_cons_succ]
          refine wpAnyH_take (i := 7) (oi := _) (v := ?vc7) rfl (by kernel_rfl) (by kernel_rfl) (by kernel_rfl) (fun _ _ _ h => h) (Or.inl ⟨by rfl, ?hyc7⟩) (by assumption) ?restc7
          case hyc7 => (intro w hSw; (try dsimp only at hSw); go_simp; try (with_reducible rfl))
          try simp only [List.getElem_toArray, List.getElem_cons_zero, List.getElem_cons_succ, Act.put, List.setIfInBounds_toArray, List.set_cons_zero, List.set_cons_succ]
          refine wpAnyH_take (i := 8) (oi := _) (v := ?vc8) rfl (by kernel_rfl) (by kernel_rfl) (by kernel_rfl) (fun _ _ _ h => h) (Or.inl ⟨by rfl, ?hyc8⟩) (by assumption) ?restc8
          case hyc8 => (intro w hSw; (try dsimp only at hSw); go_simp; try (with_reducible rfl))
          try simp only [List.getElem_toArray, List.getElem_cons_zero, List.getElem_cons_succ, Act.put, List.setIfInBounds_toArray, List.set_cons_zero, List.set_cons_succ]
          refine wpAnyH_take (i := 9) (oi := _) (v := ?vc9) rfl (by kernel_rfl) (by kernel_rfl) (by kernel_rfl) (fun _ _ _ h => h) (Or.inl ⟨by rfl, ?hyc9⟩) (by assumption) ?restc9
          case hyc9 => (intro w hSw; (try dsimp only at hSw); go_simp; try (with_reducible rfl))
          try simp only [List.getElem_toArray, List.getElem_cons_zero, List.getElem_cons_succ, Act.put, List.setIfInBounds_toArray, List.set_cons_zero, List.set_cons_succ]
          refine wpAnyH_take (i := 10) (oi := _) (v := ?vc10) rfl (by kernel_rfl) (by kernel_rfl) (by kernel_rfl) (fun _ _ _ h => h) (Or.inl ⟨by rfl, ?hyc10⟩) (by assumption) ?restc10
          case hyc10 => (intro w hSw; (try dsimp only at hSw); go_simp; try (with_reducible rfl))
          try simp only [List.getElem_toArray, List.getElem_cons_zero, List.getElem_cons_succ, Act.put, List.setIfInBounds_toArray, List.set_cons_zero, List.set_cons_succ]
          refine wpAnyH_take (i := 11) (oi := _) (v := ?vc11) rfl (by kernel_rfl) (by kernel_rfl) (by kernel_rfl) (fun _ _ _ h => h) (Or.inl ⟨by rfl, ?hyc11⟩) (by assumption) ?restc11
          case hyc11 => (intro w hSw; (try dsimp only at hSw); go_simp; try (with_reducible rfl))
          try simp only [List.getElem_toArray, List.getElem_cons_zero, List.getElem_cons_succ, Act.put, List.setIfInBounds_toArray, List.set_cons_zero, List.set_cons_succ]
          refine wpAnyH_take (i := 12) (oi := _) (v := ?vc12) rfl (by kernel_rfl) (by kernel_rfl) (by kernel_rfl) (fun _ _ _ h => h) (Or.inl ⟨by rfl, ?hyc12⟩) (by assumption) ?restc12
          case hyc12 => (intro w hSw; (try dsimp only at hSw); go_simp; try (with_reducible rfl))
          try simp only [List.getElem_toArray, List.getElem_cons_zero, List.getElem_cons_succ, Act.put, List.setIfInBounds_toArray, List.set_cons_zero, List.set_cons_succ]
          refine wpAnyH_take (i := 13) (oi := _) (v := ?vc13) rfl (by kernel_rfl) (by kernel_rfl) (by kernel_rfl) (fun _ _ _ h => h) (Or.inl ⟨by rfl, ?hyc13⟩) (by assumption) ?restc13
          case hyc13 => (intro w hSw; (try dsimp only at hSw); go_simp; try (with_reducible rfl))
          try simp only [List.getElem_toArray, List.getElem_cons_zero, List.getElem_cons_succ, Act.put, List.setIfInBounds_toArray, List.set_cons_zero, List.set_cons_succ]
          refine wpAnyH_take (i := 14) (oi := _) (v := ?vc14) rfl (by kernel_rfl) (by kernel_rfl) (by kernel_rfl) (fun _ _ _ h => h) (Or.inl ⟨by rfl, ?hyc14⟩) (by assumption) ?restc14
          case hyc14 => (intro w hSw; (try dsimp only at hSw); go_simp; try (with_reducible rfl))
          try simp only [List.getElem_toArray, List.getElem_cons_zero, List.getElem_cons_succ, Act.put, List.setIfInBounds_toArray, List.set_cons_zero, List.set_cons_succ]
          refine wpAnyH_take (i := 15) (oi := _) (v := ?vc15) rfl (by kernel_rfl) (by kernel_rfl) (by kernel_rfl) (fun _ _ _ h => h) (Or.inl ⟨by rfl, ?hyc15⟩) (by assumption) ?restc15
          case hyc15 => (intro w hSw; (try dsimp only at hSw); go_simp; try (with_reducible rfl))
          try simp only [List.getElem_toArray, List.getElem_cons_zero, List.getElem_cons_succ, Act.put, List.setIfInBounds_toArray, List.set_cons_zero, List.set_cons_succ]
          refine wpAnyH_take (i := 16) (oi := _) (v := ?vc16) rfl (by kernel_rfl) (by kernel_rfl) (by kernel_rfl) (fun _ _ _ h => h) (Or.inl ⟨by rfl, ?hyc16⟩) (by assumption) ?restc16
          case hyc16 => (intro w hSw; (try dsimp only at hSw); go_simp; try (with_reducible rfl))
          try simp only [List.getElem_toArray, List.getElem_cons_zero, List.getElem_cons_succ, Act.put, List.setIfInBounds_toArray, List.set_cons_zero, List.set_cons_succ]
          refine wpAnyH_take (i := 17) (oi := _) (v := ?vc17) rfl (by kernel_rfl) (by kernel_rfl) (by kernel_rfl) (fun _ _ _ h => h) (Or.inl ⟨by rfl, ?hyc17⟩) (by assumption) ?restc17
          case hyc17 => (intro w hSw; (try dsimp only at hSw); go_simp; try (with_reducible rfl))
          try simp only [List.getElem_toArray, List.getElem_cons_zero, List.getElem_cons_succ, Act.put, List.setIfInBounds_toArray, List.set_cons_zero, List.set_cons_succ]
          refine wpAnyH_take (i := 18) (oi := _) (v := ?vc18) rfl (by kernel_rfl) (by kernel_rfl) (by kernel_rfl) (fun _ _ _ h => h) (Or.inl ⟨by rfl, ?hyc18⟩) (by assumption) ?restc18
          case hyc18 => (intro w hSw; (try dsimp only at hSw); go_simp; try (with_reducible rfl))
          try simp only [List.getElem_toArray, List.getElem_cons_zero, List.getElem_cons_succ, Act.put, List.setIfInBounds_toArray, List.set_cons_zero, List.set_cons_succ]
          refine wpAnyH_take (i := 19) (oi := _) (v := ?vc19) rfl (by kernel_rfl) (by kernel_rfl) (by kernel_rfl) (fun _ _ _ h => h) (Or.inl ⟨by rfl, ?hyc19⟩) (by assumption) ?restc19
          case hyc19 => (intro w hSw; (try dsimp only at hSw); go_simp; try (with_reducible rfl))
          try simp only [List.getElem_toArray, List.getElem_cons_zero, List.getElem_cons_succ, Act.put, List.setIfInBounds_toArray, List.set_cons_zero, List.set_cons_succ]
          refine wpAnyH_take (i := 20) (oi := _) (v := ?vc20) rfl (by kernel_rfl) (by kernel_rfl) (by kernel_rfl) (fun _ _ _ h => h) (Or.inl ⟨by rfl, ?hyc20⟩) (by assumption) ?restc20
          case hyc20 => (intro w hSw; (try dsimp only at hSw); go_simp; try (with_reducible rfl))
          try simp only [List.getElem_toArray, List.getElem_cons_zero, List.getElem_cons_succ, Act.put, List.setIfInBounds_toArray, List.set_cons_zero, List.set_cons_succ]
          refine wpAnyH_take (i := 21) (oi := _) (v := ?vc21) rfl (by kernel_rfl) (by kernel_rfl) (by kernel_rfl) (fun _ _ _ h => h) (Or.inl ⟨by rfl, ?hyc21⟩) (by assumption) ?restc21
          case hyc21 => (intro w hSw; (try dsimp only at hSw); go_simp; try (with_reducible rfl))
          try simp only [List.getElem_toArray, List.getElem_cons_zero, List.getElem_cons_succ, Act.put, List.setIfInBounds_toArray, List.set_cons_zero, List.set_cons_succ]
          refine wpAnyH_take (i := 22) (oi := _) (v := ?vc22) rfl (by kernel_rfl) (by kernel_rfl) (by kernel_rfl) (fun _ _ _ h => h) (Or.inl ⟨by rfl, ?hyc22⟩) (by assumption) ?restc22
          case hyc22 => (intro w hSw; (try dsimp only at hSw); go_simp; try (with_reducible rfl))
          try simp only [List.getElem_toArray, List.getElem_cons_zero, List.getElem_cons_succ, Act.put, List.setIfInBounds_toArray, List.set_cons_zero, List.set_cons_succ]
          refine wpAnyH_take (i := 23) (oi := _) (v := ?vc23) rfl (by kernel_rfl) (by kernel_rfl) (by kernel_rfl) (fun _ _ _ h => h) (Or.inl ⟨by rfl, ?hyc23⟩) (by assumption) ?restc23
          case hyc23 => (intro w hSw; (try dsimp only at hSw); go_simp; try (with_reducible rfl))
          try simp only [List.getElem_toArray, List.getElem_cons_zero, List.getElem_cons_succ, Act.put, List.setIfInBounds_toArray, List.set_cons_zero, List.set_cons_succ]
          refine wpAnyH_take (i := 24) (oi := _) (v := .agg conf19.toArray) rfl (by kernel_rfl) (by kernel_rfl) (by kernel_rfl) (fun _ _ _ h => h)
            (yieldsIf_load_mid (by rfl) 29 (.tmp 7) rfl cb 0 rfl conf19 _ (fun W h => HRA8.out _ (KRD.out.trans h)) Tryd.underlying29 rfl (by kernel_rfl)) (by assumption) ?_
          try simp only [List.getElem_toArray, List.getElem_cons_zero, List.getElem_cons_succ, Act.put, List.setIfInBounds_toArray, List.set_cons_zero, List.set_cons_succ]
          refine wpAnyH_take (i := 26) (oi := _) (v := ?vc26) rfl (by kernel_rfl) (by kernel_rfl) (by kernel_rfl) (fun _ _ _ h => h) (Or.inl ⟨by rfl, ?hyc26⟩) (by assumption) ?restc26
          case hyc26 => (intro w hSw; (try dsimp only at hSw); go_simp; try (with_reducible rfl))
          try simp only [List.getElem_toArray, List.getElem_cons_zero, List.getElem_cons_succ, Act.put, List.setIfInBounds_toArray, List.set_cons_zero, List.set_cons_succ]
          refine wpAnyH_ready (rs := [25, 27]) (by kernel_rfl) (by simp) ?_
          refine AllReadyH.cons (o := _) rfl (fun K hK => ?ord1) (AllReadyH.cons (o := _) rfl (fun K hK => ?ord2) AllReadyH.nil)
          case ord1 =>
            simp only [List.getElem_toArray, List.getElem_cons_zero, List.getElem_cons_succ]
            go_simp
            refine (rules_own _).mono ?_
            rintro e wf ⟨rfl, rfl⟩
            refine hK.out _ _ (KE.out.alloc' _) (fun hHeld3 => ?_)
            clear hK K
            try simp only [List.getElem_toArray, List.getElem_cons_zero, List.getElem_cons_succ, Act.put, List.setIfInBounds_toArray, List.set_cons_zero, List.set_cons_succ]
            refine wpAnyH_ready (rs := [27]) (by kernel_rfl) (by simp) ?_
            refine AllReadyH.cons (o := _) rfl (fun K hK => ?_) AllReadyH.nil
            simp only [List.getElem_toArray, List.getElem_cons_zero, List.getElem_cons_succ]
            go_simp
            refine hK.out _ _ ((KE.out.alloc' _).alloc' _) (fun hHeld3 => ?_)
            clear hK K
            try simp only [List.getElem_toArray, List.getElem_cons_zero, List.getElem_cons_succ, Act.put, List.setIfInBounds_toArray, List.set_cons_zero, List.set_cons_succ]
            refine wpAnyH_ready (rs := [28]) (by kernel_rfl) (by simp) ?_
            refine AllReadyH.cons (o := _) rfl (fun K hK => ?_) AllReadyH.nil
            simp only [List.getElem_toArray, List.getElem_cons_zero, List.getElem_cons_succ]
            rw [if_pos (by rfl)]
            refine step_append_R (w0 := we) (.tmp 141) (.tmp 143) 26 rfl Tryd.underlying26 _ rules0 (by rfl) ((own_rules we _ (Nat.le_refl _)).alloc _) _ 1 1 [⟨exB [42, 46, 101, 120, 97, 109, 112, 108, 101], true, 0, 0⟩] (by rfl) rfl (by have h := rules_one (MapKept.heap_alloc (we.alloc (.cells (rowR rules0).toArray 35)) (.cells #[.string (exB [42, 46, 101, 120, 97, 109, 112, 108, 101]), .bool true, .int .u32 0, .int .u16 0] 35)).1; rw [World.size_alloc] at h; exact h) (by decide) (((Keeps.refl [] _).alloc' _).alloc' _) ?_
            intro v2 wg own2 _ kg
            obtain ⟨B, c6, rfl, hr2, hc2, hmy⟩ := own2.rules
            have hl5 : (rules0 ++ [(⟨exB [42, 46, 101, 120, 97, 109, 112, 108, 101], true, 0, 0⟩ : PR)]).length = 5 := rfl
            rw [hl5] at hc2 ⊢
            refine hK.out _ _ (KE.out.trans kg) (fun hHeld4 => ?_)
            clear hK K
            try simp only [List.getElem_toArray, List.getElem_cons_zero, List.getElem_cons_succ, Act.put, List.setIfInBounds_toArray, List.set_cons_zero, List.set_cons_succ]
            refine wpAnyH_ready (rs := [29]) (by kernel_rfl) (by simp) ?_
            refine AllReadyH.cons (o := _) rfl (fun K hK => ?_) AllReadyH.nil
            simp only [List.getElem_toArray, List.getElem_cons_zero, List.getElem_cons_succ]
            go_simp
            have HMX := HMAY.out _ ((KWD.out.trans KE.out).trans kg) B 5 c6 _ hl5 hr2 (by omega)
            rw [may_dup] at HMX
            refine HMX.mono ?_
            clear HMX
            rintro e wh ⟨rfl, kh⟩
            refine hK.out _ _ ((KE.out.trans kg).trans kh) (fun hHeld5 => ?_)
            clear hK K
            try simp only [List.getElem_toArray, List.getElem_cons_zero, List.getElem_cons_succ, Act.put, List.setIfInBounds_toArray, List.set_cons_zero, List.set_cons_succ]
            refine wpAnyH_take (i := 30) (oi := _) (v := ?vd30) rfl (by kernel_rfl) (by kernel_rfl) (by kernel_rfl) (fun _ _ _ h => h) (Or.inl ⟨by rfl, ?hyd30⟩) (by assumption) ?restd30
            case hyd30 => (intro w hSw; (try dsimp only at hSw); go_simp; try (with_reducible rfl))
            try simp only [List.getElem_toArray, List.getElem_cons_zero, List.getElem_cons_succ, Act.put, List.setIfInBounds_toArray, List.set_cons_zero, List.set_cons_succ]
            refine wpAnyH_take (i := 31) (oi := _) (v := ?vd31) rfl (by kernel_rfl) (by kernel_rfl) (by kernel_rfl) (fun _ _ _ h => h) (Or.inl ⟨by rfl, ?hyd31⟩) (by assumption) ?restd31
            case hyd31 => (intro w hSw; (try dsimp only at hSw); go_simp; try (with_reducible rfl))
            try simp only [List.getElem_toArray, List.getElem_cons_zero, List.getElem_cons_succ, Act.put, List.setIfInBounds_toArray, List.set_cons_zero, List.set_cons_succ]
            refine wpAnyH_take (i := 32) (oi := _) (v := ?vd32) rfl (by kernel_rfl) (by kernel_rfl) (by kernel_rfl) (fun _ _ _ h => h) (Or.inl ⟨by rfl, ?hyd32⟩) (by assumption) ?restd32
            case hyd32 => (intro w hSw; (try dsimp only at hSw); go_simp; try (with_reducible rfl))
            try simp only [List.getElem_toArray, List.getElem_cons_zero, List.getElem_cons_succ, Act.put, List.setIfInBounds_toArray, List.set_cons_zero, List.set_cons_succ]
            refine wpAnyH_ready (rs := [33]) (by kernel_rfl) (by simp) ?_
            refine AllReadyH.cons (o := _) rfl (fun K hK => ?_) AllReadyH.nil
            simp only [List.getElem_toArray, List.getElem_cons_zero, List.getElem_cons_succ]
            go_simp
            refine (HWK.out _ (((KWD.out.trans KE.out).trans kg).trans kh)).mono ?_
            rintro e wi ⟨rfl, ki⟩
            refine hK.out _ _ (((KE.out.trans kg).trans kh).trans ki) (fun hHeld6 => ?_)
            have KI := Lib.hid ((((KWD.out.trans KE.out).trans kg).trans kh).trans ki)
            clear hK K
            try simp only [List.getElem_toArray, List.getElem_cons_zero, List.getElem_cons_succ, Act.put, List.setIfInBounds_toArray, List.set_cons_zero, List.set_cons_succ]
            refine wpAnyH_take (i := 34) (oi := _) (v := ?vd34) rfl (by kernel_rfl) (by kernel_rfl) (by kernel_rfl) (fun _ _ _ h => h) (Or.inl ⟨by rfl, ?hyd34⟩) (by assumption) ?restd34
            case hyd34 => (intro w hSw; (try dsimp only at hSw); go_simp; try (with_reducible rfl))
            try simp only [List.getElem_toArray, List.getElem_cons_zero, List.getElem_cons_succ, Act.put, List.setIfInBounds_toArray, List.set_cons_zero, List.set_cons_succ]
            refine wpAnyH_take (i := 35) (oi := _) (v := ?vd35) rfl (by kernel_rfl) (by kernel_rfl) (by kernel_rfl) (fun _ _ _ h => h) (Or.inl ⟨by rfl, ?hyd35⟩) (by assumption) ?restd35
            case hyd35 => (intro w hSw; (try dsimp only at hSw); go_simp; try (with_reducible rfl))
            try simp only [List.getElem_toArray, List.getElem_cons_zero, List.getElem_cons_succ, Act.put, List.setIfInBounds_toArray, List.set_cons_zero, List.set_cons_succ]
            refine wpAnyH_done (by kernel_rfl) ?_ _
            clear hHeld hHeld2 hHeld4 hHeld5 hHeld6
            go_wp2_with fail
            go_ret
            exact ⟨by simp, KI.out⟩
          case ord2 =>
            simp only [List.getElem_toArray, List.getElem_cons_zero, List.getElem_cons_succ]
            go_simp
            refine hK.out _ _ (KE.out.alloc' _) (fun hHeld3 => ?_)
            clear hK K
            try simp only [List.getElem_toArray, List.getElem_cons_zero, List.getElem_cons_succ, Act.put, List.setIfInBounds_toArray, List.set_cons_zero, List.set_cons_succ]
            refine wpAnyH_ready (rs := [25]) (by kernel_rfl) (by simp) ?_
            refine AllReadyH.cons (o := _) rfl (fun K hK => ?_) AllReadyH.nil
            simp only [List.getElem_toArray, List.getElem_cons_zero, List.getElem_cons_succ]
            go_simp
            refine (rules_own _).mono ?_
            rintro e wf ⟨rfl, rfl⟩
            refine hK.out _ _ ((KE.out.alloc' _).alloc' _) (fun hHeld3 => ?_)
            clear hK K
            try simp only [List.getElem_toArray, List.getElem_cons_zero, List.getElem_cons_succ, Act.put, List.setIfInBounds_toArray, List.set_cons_zero, List.set_cons_succ]
            refine wpAnyH_ready (rs := [28]) (by kernel_rfl) (by simp) ?_
            refine AllReadyH.cons (o := _) rfl (fun K hK => ?_) AllReadyH.nil
            simp only [List.getElem_toArray, List.getElem_cons_zero, List.getElem_cons_succ]
            rw [if_pos (by rfl)]
            refine step_append_R (w0 := we) (.tmp 141) (.tmp 143) 26 rfl Tryd.underlying26 _ rules0 (by rfl) (own_rules (we.alloc (.cells #[.string (exB [42, 46, 101, 120, 97, 109, 112, 108, 101]), .bool true, .int .u32 0, .int .u16 0] 35)) _ (by rw [World.size_alloc]; omega)) _ 1 1 [⟨exB [42, 46, 101, 120, 97, 109, 112, 108, 101], true, 0, 0⟩] (by rfl) rfl ((rules_one (MapKept.heap_alloc we (.cells #[.string (exB [42, 46, 101, 120, 97, 109, 112, 108, 101]), .bool true, .int .u32 0, .int .u16 0] 35)).1).keep0 (Keeps.alloc [] _ _)) (by decide) (((Keeps.refl [] _).alloc' _).alloc' _) ?_
            intro v2 wg own2 _ kg
            obtain ⟨B, c6, rfl, hr2, hc2, hmy⟩ := own2.rules
            have hl5 : (rules0 ++ [(⟨exB [42, 46, 101, 120, 97, 109, 112, 108, 101], true, 0, 0⟩ : PR)]).length = 5 := rfl
            rw [hl5] at hc2 ⊢
            refine hK.out _ _ (KE.out.trans kg) (fun hHeld4 => ?_)
            clear hK K
            try simp only [List.getElem_toArray, List.getElem_cons_zero, List.getElem_cons_succ, Act.put, List.setIfInBounds_toArray, List.set_cons_zero, List.set_cons_succ]
            refine wpAnyH_ready (rs := [29]) (by kernel_rfl) (by simp) ?_
            refine AllReadyH.cons (o := _) rfl (fun K hK => ?_) AllReadyH.nil
            simp only [List.getElem_toArray, List.getElem_cons_zero, List.getElem_cons_succ]
            go_simp
            have HMX := HMAY.out _ ((KWD.out.trans KE.out).trans kg) B 5 c6 _ hl5 hr2 (by omega)
            rw [may_dup] at HMX
            refine HMX.mono ?_
            clear HMX
            rintro e wh ⟨rfl, kh⟩
            refine hK.out _ _ ((KE.out.trans kg).trans kh) (fun hHeld5 => ?_)
            clear hK K
            try simp only [List.getElem_toArray, List.getElem_cons_zero, List.getElem_cons_succ, Act.put, List.setIfInBounds_toArray, List.set_cons_zero, List.set_cons_succ]
            refine wpAnyH_take (i := 30) (oi := _) (v := ?ve30) rfl (by kernel_rfl) (by kernel_rfl) (by kernel_rfl) (fun _ _ _ h => h) (Or.inl ⟨by rfl, ?hye30⟩) (by assumption) ?reste30
            case hye30 => (intro w hSw; (try dsimp only at hSw); go_simp; try (with_reducible rfl))
            try simp only [List.getElem_toArray, List.getElem_cons_zero, List.getElem_cons_succ, Act.put, List.setIfInBounds_toArray, List.set_cons_zero, List.set_cons_succ]
            refine wpAnyH_take (i := 31) (oi := _) (v := ?ve31) rfl (by kernel_rfl) (by kernel_rfl) (by kernel_rfl) (fun _ _ _ h => h) (Or.inl ⟨by rfl, ?hye31⟩) (by assumption) ?reste31
            case hye31 => (intro w hSw; (try dsimp only at hSw); go_simp; try (with_reducible rfl))
            try simp only [List.getElem_toArray, List.getElem_cons_zero, List.getElem_cons_succ, Act.put, List.setIfInBounds_toArray, List.set_cons_zero, List.set_cons_succ]
            refine wpAnyH_take (i := 32) (oi := _) (v := ?ve32) rfl (by kernel_rfl) (by kernel_rfl) (by kernel_rfl) (fun _ _ _ h => h) (Or.inl ⟨by rfl, ?hye32⟩) (by assumption) ?reste32
            case hye32 => (intro w hSw; (try dsimp only at hSw); go_simp; try (with_reducible rfl))
            try simp only [List.getElem_toArray, List.getElem_cons_zero, List.getElem_cons_succ, Act.put, List.setIfInBounds_toArray, List.set_cons_zero, List.set_cons_succ]
            refine wpAnyH_ready (rs := [33]) (by kernel_rfl) (by simp) ?_
            refine AllReadyH.cons (o := _) rfl (fun K hK => ?_) AllReadyH.nil
            simp only [List.getElem_toArray, List.getElem_cons_zero, List.getElem_cons_succ]
            go_simp
            refine (HWK.out _ (((KWD.out.trans KE.out).trans kg).trans kh)).mono ?_
            rintro e wi ⟨rfl, ki⟩
            refine hK.out _ _ (((KE.out.trans kg).trans kh).trans ki) (fun hHeld6 => ?_)
            have KI := Lib.hid ((((KWD.out.trans KE.out).trans kg).trans kh).trans ki)
            clear hK K
            try simp only [List.getElem_toArray, List.getElem_cons_zero, List.getElem_cons_succ, Act.put, List.setIfInBounds_toArray, List.set_cons_zero, List.set_cons_succ]
            refine wpAnyH_take (i := 34) (oi := _) (v := ?ve34) rfl (by kernel_rfl) (by kernel_rfl) (by kernel_rfl) (fun _ _ _ h => h) (Or.inl ⟨by rfl, ?hye34⟩) (by assumption) ?reste34
            case hye34 => (intro w hSw; (try dsimp only at hSw); go_simp; try (with_reducible rfl))
            try simp only [List.getElem_toArray, List.getElem_cons_zero, List.getElem_cons_succ, Act.put, List.setIfInBounds_toArray, List.set_cons_zero, List.set_cons_succ]
            refine wpAnyH_take (i := 35) (oi := _) (v := ?ve35) rfl (by kernel_rfl) (by kernel_rfl) (by kernel_rfl) (fun _ _ _ h => h) (Or.inl ⟨by rfl, ?hye35⟩) (by assumption) ?reste35
            case hye35 => (intro w hSw; (try dsimp only at hSw); go_simp; try (with_reducible rfl))
            try simp only [List.getElem_toArray, List.getElem_cons_zero, List.getElem_cons_succ, Act.put, List.setIfInBounds_toArray, List.set_cons_zero, List.set_cons_succ]
            refine wpAnyH_done (by kernel_rfl) ?_ _
            clear hHeld hHeld2 hHeld4 hHeld5 hHeld6
            go_wp2_with fail
            go_ret
            exact ⟨by simp, KI.out⟩
theorem policyKnown_typed (W : World) (hL : LW W) :
    Calls Tryd.prog 8 #[] W fun e W' => e = .returned (.bool true) ∧ Below W.heap.size W W' :=
  (known_walk W hL).mono fun E W' ⟨he, k⟩ => ⟨he, k.below (Nat.le_refl _) (by simp)⟩
end Go.Proofs.YtbmkdnkiojapbaaDoor
