/-
  The walk of http.reader.head: a head. Condition: the reader lies in memory with at most 90,000 bytes; the library's variables lie as listed, whatever becomes of the reader. Printed by program.
-/
import Derived.Test.YtocnkiojlifgpaaGreatDoorHttpF
import Derived.Deep.RegionHeld3
namespace Go.Proofs.YtocnkiojlifgpaaGreatDoor
open Go.RowKit Go.Lib
set_option linter.unusedVariables false
set_option linter.unusedSimpArgs false

def headC (o : Option (List UInt8)) (r : List UInt8) : RH (Int × List UInt8) := match o with
  | some nm => .ok ((1, nm), r)
  | none => fieldsH 100000 r
theorem headH_eq (l : List UInt8) : headH l = bindH (firstH l) headC := rfl
def fieldK (f : Nat) (word r : List UInt8) : RH (Int × List UInt8) :=
  if equalFold word hostL then bindH (authH r) fun nm r => bindH (runH blankB r) fun _ r => bindH (textH [13, 10] r) fun _ r => .ok ((1, nm), r) else bindH (runH shownB r) fun _ r => bindH (textH [13, 10] r) fun _ r => fieldsH f r
theorem fields_eq (f : Nat) (l : List UInt8) : fieldsH (f + 1) l = bindH (peekH l) fun c r => if c = 13 then bindH (textH [13, 10] r) fun _ r => .ok ((2, []), r) else bindH (nextH wordB r) fun a r => bindH (runH wordB r) fun ws r => bindH (textH [58] r) fun _ r => bindH (runH blankB r) fun _ r => fieldK f (a :: ws) r := rfl
def pairV (x : Int × List UInt8) : Value := .tuple #[.int .i64 x.1, .string (bs x.2)]
theorem run_ok {p : UInt8 → Bool} : ∀ (l x r : List UInt8), runH p l = .ok (x, r) → l = x ++ r ∧ ∀ b ∈ x, p b = true
  | [], x, r, h => by simp [runH] at h
  | c :: l, x, r, h => by
    by_cases hc : p c = true
    · cases hl : runH p l with
      | error k0 => simp [runH, hc, hl, bindH] at h
      | ok y =>
        obtain ⟨a0, r0⟩ := y
        simp only [runH, hc, if_true, hl, bindH_ok, Except.ok.injEq, Prod.mk.injEq] at h
        obtain ⟨rfl, rfl⟩ := h
        obtain ⟨h1, h2⟩ := run_ok l a0 r0 hl
        exact ⟨by rw [h1]; rfl, fun b hb => by rcases List.mem_cons.1 hb with h | h; rw [h]; exact hc; exact h2 b h⟩
    · simp [runH, hc] at h
      obtain ⟨rfl, rfl⟩ := h
      exact ⟨rfl, by simp⟩
set_option maxRecDepth 100000 in
theorem word_ascii : ∀ i : Fin 256, wordB (UInt8.ofNat i.val) = true → i.val < 128 := by decide
theorem word_lt {c : UInt8} (h : wordB c = true) : c.toNat < 128 := by
  have := word_ascii ⟨c.toNat, c.toNat_lt⟩
  simp only [UInt8.ofNat_toNat] at this
  exact this h
set_option maxRecDepth 100000 in
set_option maxHeartbeats 4000000 in
theorem head_any (w : World) (r : Nat) (hw : ∀ w', Keeps [r] w w' → LW w') (l : List UInt8) (h : RdS w r l) (hl : l.length ≤ 90000) : Calls Tryz.prog 239 #[.pointer (some ⟨r, 0, none⟩)] w fun e w' => OutH w r (headH l) pairV e w' := by
  obtain ⟨res, hres⟩ : ∃ res, headH l = res := ⟨_, rfl⟩
  rw [hres]
  rw [headH_eq] at hres
  have HRES := Lib.hid hres
  have HW := Lib.hid hw
  have HR := Lib.hid h
  have HK := Lib.hid (Keeps.refl [r] w)
  clear hres hw h
  go_enter Tryz.func239, Tryz.ntmps239
  have HC1 := Lib.hid (first_any w r HW.out l HR.out (Nat.le_trans hl (by omega)))
  go_wp2_with fail
  refine HC1.out.mono ?_
  rintro e w1 ⟨k1, ho⟩
  have HK1 := Lib.hid (HK.out.trans k1)
  clear k1 HC1
  cases hx : firstH l with
  | error k =>
    rw [hx] at ho
    dsimp only at ho
    subst ho
    have hn : res = .error k := by rw [← HRES.out, hx]; rfl
    subst hn
    clear hx
    go_wp2_with fail
    exact ⟨rfl, HK1.out, rfl⟩
  | ok y =>
    obtain ⟨a1, l1⟩ := y
    rw [hx] at ho
    dsimp only [optV] at ho
    obtain ⟨rfl, hr1⟩ := ho
    have HR1 := Lib.hid hr1
    have HE1 := Lib.hid (show (headC a1 l1) = res by rw [← HRES.out, hx]; rfl)
    have hl1 : l1.length ≤ 90000 := Nat.le_trans (near_len ends_first.near hx) hl
    clear hx hr1
    clear HRES HR
    cases a1 with
    | some nm =>
      have hn : res = .ok ((1, nm), l1) := HE1.out.symm
      subst hn
      go_wp2_with fail
      exact bodyPost_ret (v := pairV (1, nm)) (by simp [results, Tryz.results239, go_sem, pairV]) rfl ⟨HK1.out, rfl, HR1.out⟩
    | none =>
      go_wp2_with fail
      go_loopg [] l1.length (fun g wx => ∃ (f : Nat) (l' : List UInt8), g = l'.length ∧ l'.length < f ∧ l'.length ≤ 90000 ∧ fieldsH f l' = res ∧ RdS wx r l' ∧ Keeps [r] w wx)
      case atStart => exact ⟨100000, l1, rfl, by omega, hl1, HE1.out, HR1.out, HK1.out⟩
      case round =>
        obtain ⟨f, l', hg, hf, hl2, hre, hr, hk⟩ := hrel
        subst hg
        obtain ⟨f', rfl⟩ : ∃ f', f = f' + 1 := ⟨f - 1, by omega⟩
        rw [fields_eq] at hre
        have HK2 := Lib.hid hk
        have HRE := Lib.hid hre
        clear hk hre HK1 HR1 HE1
        cases l' with
        | nil =>
          have HP := Lib.hid (peek_none wr.drew r (hr.keep (Keeps.refl [] wr).drew' (by simp)))
          have hn : res = .error 0 := HRE.out.symm
          subst hn
          clear hr
          go_upto_region 4 with fail
          refine wp_region_held_drew (S := fun _ => True) (by kernel_rfl) trivial (fun hHeld => ?_)
          refine wpAnyH_take (i := 0) (oi := _) (v := ?va) rfl (by kernel_rfl) (by kernel_rfl) (by kernel_rfl) (fun _ _ _ h => h) (Or.inl ⟨by rfl, ?hyva⟩) (by assumption) ?restva
          case hyva => (intro w hSw; (try dsimp only at hSw); go_simp; try (with_reducible rfl))
          try simp only [List.getElem_toArray, List.getElem_cons_zero, List.getElem_cons_succ, Act.put, List.setIfInBounds_toArray, List.set_cons_zero, List.set_cons_succ]
          refine wpAnyH_take (i := 2) (oi := _) (v := ?vb) rfl (by kernel_rfl) (by kernel_rfl) (by kernel_rfl) (fun _ _ _ h => h) (Or.inl ⟨by rfl, ?hyvb⟩) (by assumption) ?restvb
          case hyvb => (intro w hSw; (try dsimp only at hSw); go_simp; try (with_reducible rfl))
          try simp only [List.getElem_toArray, List.getElem_cons_zero, List.getElem_cons_succ, Act.put, List.setIfInBounds_toArray, List.set_cons_zero, List.set_cons_succ]
          refine wpAnyH_ready (rs := [1]) (by kernel_rfl) (by simp) ?_
          refine AllReadyH.cons (o := _) rfl (fun K hK => ?_) AllReadyH.nil
          try simp only [List.getElem_toArray, List.getElem_cons_zero, List.getElem_cons_succ, Act.put, List.setIfInBounds_toArray, List.set_cons_zero, List.set_cons_succ]
          go_simp
          refine HP.out.mono ?_
          rintro e w2 ⟨rfl, hw⟩
          exact ⟨rfl, by rw [hw]; exact HK2.out.drew', rfl⟩
        | cons c l' =>
          have HP := Lib.hid (peek_some wr.drew r c l' (hr.keep (Keeps.refl [] wr).drew' (by simp)))
          have HR2 := Lib.hid hr
          clear hr
          go_upto_region 4 with fail
          refine wp_region_held_drew (S := fun _ => True) (by kernel_rfl) trivial (fun hHeld => ?_)
          refine wpAnyH_take (i := 0) (oi := _) (v := ?wa) rfl (by kernel_rfl) (by kernel_rfl) (by kernel_rfl) (fun _ _ _ h => h) (Or.inl ⟨by rfl, ?hywa⟩) (by assumption) ?restwa
          case hywa => (intro w hSw; (try dsimp only at hSw); go_simp; try (with_reducible rfl))
          try simp only [List.getElem_toArray, List.getElem_cons_zero, List.getElem_cons_succ, Act.put, List.setIfInBounds_toArray, List.set_cons_zero, List.set_cons_succ]
          refine wpAnyH_take (i := 2) (oi := _) (v := ?wb) rfl (by kernel_rfl) (by kernel_rfl) (by kernel_rfl) (fun _ _ _ h => h) (Or.inl ⟨by rfl, ?hywb⟩) (by assumption) ?restwb
          case hywb => (intro w hSw; (try dsimp only at hSw); go_simp; try (with_reducible rfl))
          try simp only [List.getElem_toArray, List.getElem_cons_zero, List.getElem_cons_succ, Act.put, List.setIfInBounds_toArray, List.set_cons_zero, List.set_cons_succ]
          refine wpAnyH_ready (rs := [1]) (by kernel_rfl) (by simp) ?_
          refine AllReadyH.cons (o := _) rfl (fun K hK => ?_) AllReadyH.nil
          try simp only [List.getElem_toArray, List.getElem_cons_zero, List.getElem_cons_succ, Act.put, List.setIfInBounds_toArray, List.set_cons_zero, List.set_cons_succ]
          go_simp
          refine HP.out.mono ?_
          rintro e w2 ⟨rfl, hw⟩
          obtain rfl := hw.symm
          clear hw
          refine hK.out _ _ trivial (fun hHeld2 => ?_)
          clear hK K
          try simp only [List.getElem_toArray, List.getElem_cons_zero, List.getElem_cons_succ, Act.put, List.setIfInBounds_toArray, List.set_cons_zero, List.set_cons_succ]
          refine wpAnyH_take (i := 3) (oi := _) (v := ?wc1) rfl (by kernel_rfl) (by kernel_rfl) (by kernel_rfl) (fun _ _ _ h => h) (Or.inl ⟨by rfl, ?hywc1⟩) (by assumption) ?restwc1
          case hywc1 => (intro w hSw; (try dsimp only at hSw); go_simp; try (with_reducible rfl))
          try simp only [List.getElem_toArray, List.getElem_cons_zero, List.getElem_cons_succ, Act.put, List.setIfInBounds_toArray, List.set_cons_zero, List.set_cons_succ]
          refine wpAnyH_done (by kernel_rfl) ?_ _
          have HKD := Lib.hid (show Keeps [r] w wr.drew from HK2.out.drew')
          have HRD := Lib.hid (show RdS wr.drew r (c :: l') from HR2.out.keep (Keeps.refl [] wr).drew' (by simp))
          have hlc : l'.length ≤ 90000 := by simp at hl2; omega
          clear HP HK2 HR2
          by_cases h13 : (c.toNat : Int) = 13
          · have hc : c = 13 := (u8_eq c 13 (by omega)).2 h13
            have hb13 : ((c.toNat : Int) != (((⟨#[13, 10]⟩ : ByteArray)[0]'(by decide)).toNat : Int)) = false := by show ((c.toNat : Int) != 13) = false; simpa using h13
            have HE2 := Lib.hid (show (bindH (textH [13, 10] (c :: l')) fun _ r => .ok ((2, []), r)) = res by rw [← HRE.out]; simp [peekH, bindH_ok, hc])
            clear h13 hc HRE
            have HC3 := Lib.hid (text_any wr.drew r (c :: l') [13, 10] HRD.out (by simp))
            go_wp2_with fail
            refine HC3.out.mono ?_
            rintro e w3 ⟨k3, ho⟩
            have HK3 := Lib.hid (HKD.out.trans k3)
            clear k3 HC3
            cases hx : textH [13, 10] (c :: l') with
            | error k =>
              rw [hx] at ho
              dsimp only at ho
              subst ho
              have hn : res = .error k := by rw [← HE2.out, hx]; rfl
              subst hn
              clear hx
              go_wp2_with fail
              exact ⟨rfl, HK3.out, rfl⟩
            | ok y =>
              obtain ⟨a3, l3⟩ := y
              rw [hx] at ho
              dsimp only at ho
              obtain ⟨rfl, hr3⟩ := ho
              have HR3 := Lib.hid hr3
              have HE3 := Lib.hid (show (.ok ((2, []), l3)) = res by rw [← HE2.out, hx]; rfl)
              have hl3 : l3.length ≤ 90000 := Nat.le_trans (near_len (ends_text _).near hx) hl2
              clear hx hr3
              have hn : res = .ok ((2, []), l3) := HE3.out.symm
              subst hn
              go_wp2_with fail
              exact bodyPost_ret (v := pairV (2, [])) (by simp [results, Tryz.results239, go_sem, pairV]; rfl) rfl ⟨HK3.out, rfl, HR3.out⟩
          · have hc : ¬ c = 13 := fun e => h13 ((u8_eq c 13 (by omega)).1 e)
            have hb13 : ((c.toNat : Int) != (((⟨#[13, 10]⟩ : ByteArray)[0]'(by decide)).toNat : Int)) = true := by show ((c.toNat : Int) != 13) = true; simpa using h13
            have HE2 := Lib.hid (show (bindH (nextH wordB (c :: l')) fun a r => bindH (runH wordB r) fun ws r => bindH (textH [58] r) fun _ r => bindH (runH blankB r) fun _ r => fieldK f' (a :: ws) r) = res by rw [← HRE.out]; simp [peekH, bindH_ok, hc])
            have HNX := Lib.hid (next_any wr.drew r (c :: l') _ wordB HRD.out (isF_worded [] wr.drew))
            clear h13 hc HRE
            by_cases hwo : wordB c = true
            · rw [show nextH wordB (c :: l') = .ok (c, l') by simp [nextH, hwo]] at HNX
              have HE3 := Lib.hid (show (bindH (runH wordB l') fun ws r => bindH (textH [58] r) fun _ r => bindH (runH blankB r) fun _ r => fieldK f' (c :: ws) r) = res by rw [← HE2.out]; simp [nextH, hwo, bindH_ok])
              have hER := ascii_rune (word_lt hwo)
              have HWO := Lib.hid (word_lt hwo)
              clear hwo HE2
              go_wp2_with fail
              refine HNX.out.mono ?_
              rintro e w3 ⟨k3, rfl, hr3⟩
              have HK3 := Lib.hid (HKD.out.trans k3)
              have HR3 := Lib.hid hr3
              clear k3 hr3 HNX hb13 HKD HRD
              have hlz : l'.length ≤ l'.length := Nat.le_refl _
              have HC4 := Lib.hid (run_any w3 r l' _ wordB HR3.out (by omega) (isF_worded [r] w3))
              go_wp2_with fail
              refine HC4.out.mono ?_
              rintro e w4 ⟨k4, ho⟩
              have HK4 := Lib.hid (HK3.out.trans k4)
              clear k4 HC4
              cases hx : runH wordB l' with
              | error k =>
                rw [hx] at ho
                dsimp only at ho
                subst ho
                have hn : res = .error k := by rw [← HE3.out, hx]; rfl
                subst hn
                clear hx
                go_wp2_with fail
                exact ⟨rfl, HK4.out, rfl⟩
              | ok y =>
                obtain ⟨a4, l4⟩ := y
                rw [hx] at ho
                dsimp only at ho
                obtain ⟨rfl, hr4⟩ := ho
                have HR4 := Lib.hid hr4
                have HE4 := Lib.hid (show (bindH (textH [58] l4) fun _ r => bindH (runH blankB r) fun _ r => fieldK f' (c :: a4) r) = res by rw [← HE3.out, hx]; rfl)
                have hl4 : l4.length ≤ l'.length := Nat.le_trans (near_len (near_run _) hx) hlz
                obtain ⟨hla, hwa⟩ := run_ok _ _ _ hx
                have HWA := Lib.hid (fun b (hb : b ∈ a4) => word_lt (hwa b hb))
                have hal : a4.length ≤ l'.length := by rw [hla]; simp
                clear hla hwa
                clear hx hr4
                have hsum : ¬ 9223372036854775807 < (bs [c]).size + (bs a4).size := by rw [bs_size, bs_size]; simp; omega
                have happ : bs [c] ++ bs a4 = bs (c :: a4) := by apply ByteArray.ext; simp [bs]
                clear HE3 HR3 HK3
                have HC5 := Lib.hid (text_any w4 r l4 [58] HR4.out (by simp))
                go_wp2_with fail
                refine HC5.out.mono ?_
                rintro e w5 ⟨k5, ho⟩
                have HK5 := Lib.hid (HK4.out.trans k5)
                clear k5 HC5
                cases hx : textH [58] l4 with
                | error k =>
                  rw [hx] at ho
                  dsimp only at ho
                  subst ho
                  have hn : res = .error k := by rw [← HE4.out, hx]; rfl
                  subst hn
                  clear hx
                  go_wp2_with fail
                  exact ⟨rfl, HK5.out, rfl⟩
                | ok y =>
                  obtain ⟨a5, l5⟩ := y
                  rw [hx] at ho
                  dsimp only at ho
                  obtain ⟨rfl, hr5⟩ := ho
                  have HR5 := Lib.hid hr5
                  have HE5 := Lib.hid (show (bindH (runH blankB l5) fun _ r => fieldK f' (c :: a4) r) = res by rw [← HE4.out, hx]; rfl)
                  have hl5 : l5.length ≤ l'.length := Nat.le_trans (near_len (ends_text _).near hx) hl4
                  clear hx hr5
                  clear HE4 HR4 HK4 hsum happ hER
                  have HC6 := Lib.hid (run_any w5 r l5 _ blankB HR5.out (by omega) (isF_blank [r] w5))
                  go_wp2_with fail
                  refine HC6.out.mono ?_
                  rintro e w6 ⟨k6, ho⟩
                  have HK6 := Lib.hid (HK5.out.trans k6)
                  clear k6 HC6
                  cases hx : runH blankB l5 with
                  | error k =>
                    rw [hx] at ho
                    dsimp only at ho
                    subst ho
                    have hn : res = .error k := by rw [← HE5.out, hx]; rfl
                    subst hn
                    clear hx
                    go_wp2_with fail
                    exact ⟨rfl, HK6.out, rfl⟩
                  | ok y =>
                    obtain ⟨a6, l6⟩ := y
                    rw [hx] at ho
                    dsimp only at ho
                    obtain ⟨rfl, hr6⟩ := ho
                    have HR6 := Lib.hid hr6
                    have HE6 := Lib.hid (show (fieldK f' (c :: a4) l6) = res by rw [← HE5.out, hx]; rfl)
                    have hl6 : l6.length ≤ l'.length := Nat.le_trans (near_len (near_run _) hx) hl5
                    clear hx hr6
                    clear HE5 HR5 HK5
                    have HEQ := Lib.hid (Any.strings_EqualFold Tryz.eqfL (bs (c :: a4)) ⟨#[104, 111, 115, 116]⟩ w6 (by rw [bs_size]; simp; omega) (fun j b hb => by
                      have hm := List.mem_of_getElem? hb
                      rcases List.mem_cons.1 (show b ∈ c :: a4 from hm) with h | h
                      · rw [h]; exact HWO.out
                      · exact HWA.out b h) (fun j b hb => by
                      have hm := List.mem_of_getElem? hb
                      have h2 : b ∈ ([104, 111, 115, 116] : List UInt8) := hm
                      simp only [List.mem_cons, List.not_mem_nil, or_false] at h2
                      rcases h2 with h | h | h | h <;> rw [h] <;> decide))
                    rw [show Lib.equalFold (bs (c :: a4)).data.toList (⟨#[104, 111, 115, 116]⟩ : ByteArray).data.toList = equalFold (c :: a4) hostL from rfl] at HEQ
                    cases heq : equalFold (c :: a4) hostL with
                    | true =>
                      rw [heq] at HEQ
                      have HE7 := Lib.hid (show (bindH (authH l6) fun nm r => bindH (runH blankB r) fun _ r => bindH (textH [13, 10] r) fun _ r => .ok ((1, nm), r)) = res by rw [← HE6.out]; simp [fieldK, heq])
                      clear heq HE6
                      go_wp2_with fail
                      refine HEQ.out.mono ?_
                      rintro e w7 ⟨rfl, hw⟩
                      obtain rfl := hw.symm
                      clear hw HEQ
                      have HC7 := Lib.hid (auth_any w6 r (fun x k => HW.out x (HK6.out.trans k)) l6 HR6.out (by omega))
                      go_wp2_with fail
                      refine HC7.out.mono ?_
                      rintro e w7 ⟨k7, ho⟩
                      have HK7 := Lib.hid (HK6.out.trans k7)
                      clear k7 HC7
                      cases hx : authH l6 with
                      | error k =>
                        rw [hx] at ho
                        dsimp only at ho
                        subst ho
                        have hn : res = .error k := by rw [← HE7.out, hx]; rfl
                        subst hn
                        clear hx
                        go_wp2_with fail
                        exact ⟨rfl, HK7.out, rfl⟩
                      | ok y =>
                        obtain ⟨a7, l7⟩ := y
                        rw [hx] at ho
                        dsimp only at ho
                        obtain ⟨rfl, hr7⟩ := ho
                        have HR7 := Lib.hid hr7
                        have HE7 := Lib.hid (show (bindH (runH blankB l7) fun _ r => bindH (textH [13, 10] r) fun _ r => .ok ((1, a7), r)) = res by rw [← HE7.out, hx]; rfl)
                        have hl7 : l7.length ≤ l'.length := Nat.le_trans (near_len near_auth hx) hl6
                        clear hx hr7
                        have HC8 := Lib.hid (run_any w7 r l7 _ blankB HR7.out (by omega) (isF_blank [r] w7))
                        go_wp2_with fail
                        refine HC8.out.mono ?_
                        rintro e w8 ⟨k8, ho⟩
                        have HK8 := Lib.hid (HK7.out.trans k8)
                        clear k8 HC8
                        cases hx : runH blankB l7 with
                        | error k =>
                          rw [hx] at ho
                          dsimp only at ho
                          subst ho
                          have hn : res = .error k := by rw [← HE7.out, hx]; rfl
                          subst hn
                          clear hx
                          go_wp2_with fail
                          exact ⟨rfl, HK8.out, rfl⟩
                        | ok y =>
                          obtain ⟨a8, l8⟩ := y
                          rw [hx] at ho
                          dsimp only at ho
                          obtain ⟨rfl, hr8⟩ := ho
                          have HR8 := Lib.hid hr8
                          have HE8 := Lib.hid (show (bindH (textH [13, 10] l8) fun _ r => .ok ((1, a7), r)) = res by rw [← HE7.out, hx]; rfl)
                          have hl8 : l8.length ≤ l'.length := Nat.le_trans (near_len (near_run _) hx) hl7
                          clear hx hr8
                          have HC9 := Lib.hid (text_any w8 r l8 [13, 10] HR8.out (by simp))
                          go_wp2_with fail
                          refine HC9.out.mono ?_
                          rintro e w9 ⟨k9, ho⟩
                          have HK9 := Lib.hid (HK8.out.trans k9)
                          clear k9 HC9
                          cases hx : textH [13, 10] l8 with
                          | error k =>
                            rw [hx] at ho
                            dsimp only at ho
                            subst ho
                            have hn : res = .error k := by rw [← HE8.out, hx]; rfl
                            subst hn
                            clear hx
                            go_wp2_with fail
                            exact ⟨rfl, HK9.out, rfl⟩
                          | ok y =>
                            obtain ⟨a9, l9⟩ := y
                            rw [hx] at ho
                            dsimp only at ho
                            obtain ⟨rfl, hr9⟩ := ho
                            have HR9 := Lib.hid hr9
                            have HE9 := Lib.hid (show (.ok ((1, a7), l9)) = res by rw [← HE8.out, hx]; rfl)
                            have hl9 : l9.length ≤ l'.length := Nat.le_trans (near_len (ends_text _).near hx) hl8
                            clear hx hr9
                            have hn : res = .ok ((1, a7), l9) := HE9.out.symm
                            subst hn
                            go_wp2_with fail
                            exact bodyPost_ret (v := pairV (1, a7)) (by simp [results, Tryz.results239, go_sem, pairV]) rfl ⟨HK9.out, rfl, HR9.out⟩
                    | false =>
                      rw [heq] at HEQ
                      have HE7 := Lib.hid (show (bindH (runH shownB l6) fun _ r => bindH (textH [13, 10] r) fun _ r => fieldsH f' r) = res by rw [← HE6.out]; simp [fieldK, heq])
                      clear heq HE6
                      go_wp2_with fail
                      refine HEQ.out.mono ?_
                      rintro e w7 ⟨rfl, hw⟩
                      obtain rfl := hw.symm
                      clear hw HEQ
                      have HC7 := Lib.hid (run_any w6 r l6 _ shownB HR6.out (by omega) (isF_shown [r] w6))
                      go_wp2_with fail
                      refine HC7.out.mono ?_
                      rintro e w7 ⟨k7, ho⟩
                      have HK7 := Lib.hid (HK6.out.trans k7)
                      clear k7 HC7
                      cases hx : runH shownB l6 with
                      | error k =>
                        rw [hx] at ho
                        dsimp only at ho
                        subst ho
                        have hn : res = .error k := by rw [← HE7.out, hx]; rfl
                        subst hn
                        clear hx
                        go_wp2_with fail
                        exact ⟨rfl, HK7.out, rfl⟩
                      | ok y =>
                        obtain ⟨a7, l7⟩ := y
                        rw [hx] at ho
                        dsimp only at ho
                        obtain ⟨rfl, hr7⟩ := ho
                        have HR7 := Lib.hid hr7
                        have HE7 := Lib.hid (show (bindH (textH [13, 10] l7) fun _ r => fieldsH f' r) = res by rw [← HE7.out, hx]; rfl)
                        have hl7 : l7.length ≤ l'.length := Nat.le_trans (near_len (near_run _) hx) hl6
                        clear hx hr7
                        have HC8 := Lib.hid (text_any w7 r l7 [13, 10] HR7.out (by simp))
                        go_wp2_with fail
                        refine HC8.out.mono ?_
                        rintro e w8 ⟨k8, ho⟩
                        have HK8 := Lib.hid (HK7.out.trans k8)
                        clear k8 HC8
                        cases hx : textH [13, 10] l7 with
                        | error k =>
                          rw [hx] at ho
                          dsimp only at ho
                          subst ho
                          have hn : res = .error k := by rw [← HE7.out, hx]; rfl
                          subst hn
                          clear hx
                          go_wp2_with fail
                          exact ⟨rfl, HK8.out, rfl⟩
                        | ok y =>
                          obtain ⟨a8, l8⟩ := y
                          rw [hx] at ho
                          dsimp only at ho
                          obtain ⟨rfl, hr8⟩ := ho
                          have HR8 := Lib.hid hr8
                          have HE8 := Lib.hid (show (fieldsH f' l8) = res by rw [← HE7.out, hx]; rfl)
                          have hl8 : l8.length ≤ l'.length := Nat.le_trans (near_len (ends_text _).near hx) hl7
                          clear hx hr8
                          go_wp2_with fail
                          go_roundg l8.length
                          case measure => simp; omega
                          case rel => exact ⟨f', l8, rfl, by simp at hf; omega, by omega, HE8.out, HR8.out, HK8.out⟩
            · have hwo' : wordB c = false := by simpa using hwo
              rw [show nextH wordB (c :: l') = .error 3 by simp [nextH, hwo']] at HNX
              have hn : res = .error 3 := by rw [← HE2.out]; simp [nextH, hwo', bindH]
              subst hn
              clear hwo hwo' HE2
              go_wp2_with fail
              refine HNX.out.mono ?_
              rintro e w3 ⟨k3, rfl⟩
              have HK3 := Lib.hid (HKD.out.trans k3)
              clear k3 HNX
              go_wp2_with fail
              exact ⟨rfl, HK3.out, rfl⟩
end Go.Proofs.YtocnkiojlifgpaaGreatDoor
