/-
  The walks of http.reader.first. Condition: the reader lies in memory; the library's variables lie as listed, whatever becomes of the reader. Printed by program.
-/
import Derived.Test.YtocnkiojlifgpaaGreatDoorHttpA
namespace Go.Proofs.YtocnkiojlifgpaaGreatDoor
open Go.RowKit Go.Lib
set_option linter.unusedVariables false
set_option linter.unusedSimpArgs false

theorem near_len {α : Type} {p : List UInt8 → RH α} (h : NearH p) {l r : List UInt8} {a : α} (hx : p l = .ok (a, r)) : r.length ≤ l.length := by
  obtain ⟨pre, h1, _⟩ := h l a r hx
  rw [h1]; simp
/-- behind the target -/
def tailF (o : Option (List UInt8)) (r : List UInt8) : RH (Option (List UInt8)) :=
  bindH (textH [32, 72, 84, 84, 80, 47, 49, 46] r) fun _ r => bindH (nextH zerooneB r) fun _ r => bindH (textH [13, 10] r) fun _ r => .ok (o, r)
theorem firstH_eq (l : List UInt8) : firstH l = bindH (nextH capB l) fun _ r => bindH (methodH 1 r) fun _ r => bindH (textH [32] r) fun _ r => bindH (targetH r) tailF := rfl
def targetK (c : UInt8) (r : List UInt8) : RH (Option (List UInt8)) :=
  if c = 47 then bindH (runH seenB r) fun _ r => .ok (none, r) else if c = 104 then bindH (textH [116, 116, 112, 58, 47, 47] r) fun _ r => bindH (authH r) fun nm r => bindH (peekH r) fun c r => if c = 47 ∨ c = 63 then bindH (runH seenB r) fun _ r => .ok (some nm, r) else .ok (some nm, r) else .ok (none, r)
theorem targetH_eq (l : List UInt8) : targetH l = bindH (nextH starB l) targetK := rfl
theorem str_spc : (⟨#[32]⟩ : ByteArray) = bs [32] := rfl
def optV (o : Option (List UInt8)) : Value := .tuple #[.string (bs (o.getD [])), .bool o.isSome]
theorem HW.mono {w w' : World} {r : Nat} (h : ∀ x, Keeps [r] w x → LW x) (k : Keeps [r] w w') : ∀ x, Keeps [r] w' x → LW x := fun x k' => h x (k.trans k')
set_option maxRecDepth 100000 in
set_option maxHeartbeats 4000000 in
theorem first_any (w : World) (r : Nat) (hw : ∀ w', Keeps [r] w w' → LW w') (l : List UInt8) (h : RdS w r l) (hl : l.length ≤ 1000000) : Calls Tryz.prog 253 #[.pointer (some ⟨r, 0, none⟩)] w fun e w' => OutH w r (firstH l) optV e w' := by
  obtain ⟨res, hres⟩ : ∃ res, firstH l = res := ⟨_, rfl⟩
  rw [hres]
  rw [firstH_eq] at hres
  have HRES := Lib.hid hres
  have HW := Lib.hid hw
  have HR := Lib.hid h
  have HK := Lib.hid (Keeps.refl [r] w)
  clear hres hw h
  go_enter Tryz.func253, Tryz.ntmps253
  have HC1 := Lib.hid (next_any w r l _ capB HR.out (isF_capital [] w))
  go_wp2_with fail
  refine HC1.out.mono ?_
  rintro e w1 ⟨k1, ho⟩
  have HK1 := Lib.hid (HK.out.trans k1)
  clear k1 HC1
  cases hx : nextH capB l with
  | error k =>
    rw [hx] at ho
    dsimp only at ho
    subst ho
    have hn : res = .error k := by rw [← HRES.out, hx]; rfl
    subst hn
    clear hx
    go_wp2_with fail
    exact ⟨rfl, HK1.out, rfl⟩
  | ok y =>
    obtain ⟨a1, l1⟩ := y
    rw [hx] at ho
    dsimp only at ho
    obtain ⟨rfl, hr1⟩ := ho
    have HR1 := Lib.hid hr1
    have HE1 := Lib.hid (show (bindH (methodH 1 l1) fun _ r => bindH (textH [32] r) fun _ r => bindH (targetH r) tailF) = res by rw [← HRES.out, hx]; rfl)
    have hl1 : l1.length ≤ 1000000 := Nat.le_trans (near_len (near_next _) hx) hl
    clear hx hr1
    go_wp2_with fail
    go_loopg [4] l1.length (fun g mv wx => ∃ (m : Nat) (l' : List UInt8), mv = .int .i64 m ∧ m ≤ 16 ∧ g = l'.length ∧ (bindH (methodH m l') fun _ r => bindH (textH [32] r) fun _ r => bindH (targetH r) tailF) = res ∧ l'.length ≤ 1000000 ∧ RdS wx r l' ∧ Keeps [r] w wx)
    case atStart => exact ⟨1, l1, rfl, by omega, rfl, HE1.out, hl1, HR1.out, HK1.out⟩
    case round =>
      obtain ⟨m, l', rfl, hm, hg, hre, hl2, hr, hk⟩ := hrel
      subst hg
      have HK2 := Lib.hid hk
      have HRE := Lib.hid hre
      clear hk hre HK1 HR1 HE1 HR
      cases l' with
      | nil =>
        have HP := Lib.hid (peek_none wr r hr)
        have hn : res = .error 0 := HRE.out.symm
        subst hn
        clear hr
        go_wp2_with fail
        refine HP.out.mono ?_
        rintro e w1 ⟨rfl, rfl⟩
        go_wp2_with fail
        exact ⟨rfl, HK2.out, rfl⟩
      | cons c l' =>
        have HP := Lib.hid (peek_some wr r c l' hr)
        have HR2 := Lib.hid hr
        clear hr
        by_cases h32 : (c.toNat : Int) = 32
        · have hc : c = 32 := (u8_eq c 32 (by omega)).2 h32
          have HE2 := Lib.hid (show (bindH (textH [32] (c :: l')) fun _ r => bindH (targetH r) tailF) = res by rw [← HRE.out]; simp [methodH, hc, bindH_ok])
          have h32b : ((c.toNat : Int) != 32) = false := by simpa using h32
          clear h32 hc
          go_wp2_with fail
          refine HP.out.mono ?_
          rintro e w2 ⟨rfl, hw⟩
          obtain rfl := hw.symm
          clear hw HP
          have HC3 := Lib.hid (text_any wr r (c :: l') [32] HR2.out (by simp))
          go_wp2_with fail
          refine HC3.out.mono ?_
          rintro e w3 ⟨k3, ho⟩
          have HK3 := Lib.hid (HK2.out.trans k3)
          clear k3 HC3
          cases hx : textH [32] (c :: l') with
          | error k =>
            rw [hx] at ho
            dsimp only at ho
            subst ho
            have hn : res = .error k := by rw [← HE2.out, hx]; rfl
            subst hn
            clear hx
            go_wp2_with fail
            exact ⟨rfl, HK3.out, rfl⟩
          | ok y =>
            obtain ⟨a3, l3⟩ := y
            rw [hx] at ho
            dsimp only at ho
            obtain ⟨rfl, hr3⟩ := ho
            have HR3 := Lib.hid hr3
            have HE3 := Lib.hid (show (bindH (targetH l3) tailF) = res by rw [← HE2.out, hx]; rfl)
            have hl3 : l3.length ≤ 1000000 := Nat.le_trans (near_len (ends_text _).near hx) hl2
            clear hx hr3
            have HE3' := Lib.hid (show (bindH (bindH (nextH starB l3) targetK) tailF) = res from HE3.out)
            clear HE3 HE2 HRE
            have HC4 := Lib.hid (next_any w3 r l3 _ starB HR3.out (isF_star [] w3))
            go_wp2_with fail
            refine HC4.out.mono ?_
            rintro e w4 ⟨k4, ho⟩
            have HK4 := Lib.hid (HK3.out.trans k4)
            clear k4 HC4
            cases hx : nextH starB l3 with
            | error k =>
              rw [hx] at ho
              dsimp only at ho
              subst ho
              have hn : res = .error k := by rw [← HE3'.out, hx]; rfl
              subst hn
              clear hx
              go_wp2_with fail
              exact ⟨rfl, HK4.out, rfl⟩
            | ok y =>
              obtain ⟨a4, l4⟩ := y
              rw [hx] at ho
              dsimp only at ho
              obtain ⟨rfl, hr4⟩ := ho
              have HR4 := Lib.hid hr4
              have HE4 := Lib.hid (show (bindH (targetK a4 l4) tailF) = res by rw [← HE3'.out, hx]; rfl)
              have hl4 : l4.length ≤ 1000000 := Nat.le_trans (near_len (near_next _) hx) hl3
              clear hx hr4
              go_upto_block 2 with fail
              go_cut [5, 6] (fun nv av wx => ∃ (o : Option (List UInt8)) (l' : List UInt8), nv = .string (bs (o.getD [])) ∧ av = .bool o.isSome ∧ tailF o l' = res ∧ l'.length ≤ 1000000 ∧ RdS wx r l' ∧ Keeps [r] w wx)
              case first =>
                by_cases h47 : (a4.toNat : Int) = 47
                · have hc : a4 = 47 := (u8_eq a4 47 (by omega)).2 h47
                  have h47b : ((a4.toNat : Int) == 47) = true := beq_iff_eq.2 h47
                  have HE5 := Lib.hid (show (bindH (bindH (runH seenB l4) fun _ r => .ok (none, r)) tailF) = res by rw [← HE4.out, hc]; rfl)
                  clear h47 hc
                  have HC5 := Lib.hid (run_any w4 r l4 _ seenB HR4.out hl4 (isF_seen [r] w4))
                  go_wp2_with fail
                  refine HC5.out.mono ?_
                  rintro e w5 ⟨k5, ho⟩
                  have HK5 := Lib.hid (HK4.out.trans k5)
                  clear k5 HC5
                  cases hx : runH seenB l4 with
                  | error k =>
                    rw [hx] at ho
                    dsimp only at ho
                    subst ho
                    have hn : res = .error k := by rw [← HE5.out, hx]; rfl
                    subst hn
                    clear hx
                    go_wp2_with fail
                    exact ⟨rfl, HK5.out, rfl⟩
                  | ok y =>
                    obtain ⟨a5, l5⟩ := y
                    rw [hx] at ho
                    dsimp only at ho
                    obtain ⟨rfl, hr5⟩ := ho
                    have HR5 := Lib.hid hr5
                    have HE5 := Lib.hid (show (tailF none l5) = res by rw [← HE5.out, hx]; rfl)
                    have hl5 : l5.length ≤ 1000000 := Nat.le_trans (near_len (near_run _) hx) hl4
                    clear hx hr5
                    go_wp2_with fail
                    go_meet
                    exact ⟨none, l5, rfl, rfl, HE5.out, hl5, HR5.out, HK5.out⟩
                · have hc47 : ¬ a4 = 47 := fun e => h47 ((u8_eq a4 47 (by omega)).1 e)
                  have h47b : ((a4.toNat : Int) == 47) = false := beq_eq_false_iff_ne.2 h47
                  by_cases h104 : (a4.toNat : Int) = 104
                  · have hc : a4 = 104 := (u8_eq a4 104 (by omega)).2 h104
                    have h104b : ((a4.toNat : Int) == 104) = true := beq_iff_eq.2 h104
                    have HE5 := Lib.hid (show (bindH (bindH (textH [116, 116, 112, 58, 47, 47] l4) fun _ r => bindH (authH r) fun nm r => bindH (peekH r) fun c r => if c = 47 ∨ c = 63 then bindH (runH seenB r) fun _ r => .ok (some nm, r) else .ok (some nm, r)) tailF) = res by rw [← HE4.out, hc]; rfl)
                    clear h47 h104 hc hc47
                    have HC5 := Lib.hid (text_any w4 r l4 [116, 116, 112, 58, 47, 47] HR4.out (by simp))
                    go_wp2_with fail
                    refine HC5.out.mono ?_
                    rintro e w5 ⟨k5, ho⟩
                    have HK5 := Lib.hid (HK4.out.trans k5)
                    clear k5 HC5
                    cases hx : textH [116, 116, 112, 58, 47, 47] l4 with
                    | error k =>
                      rw [hx] at ho
                      dsimp only at ho
                      subst ho
                      have hn : res = .error k := by rw [← HE5.out, hx]; rfl
                      subst hn
                      clear hx
                      go_wp2_with fail
                      exact ⟨rfl, HK5.out, rfl⟩
                    | ok y =>
                      obtain ⟨a5, l5⟩ := y
                      rw [hx] at ho
                      dsimp only at ho
                      obtain ⟨rfl, hr5⟩ := ho
                      have HR5 := Lib.hid hr5
                      have HE5 := Lib.hid (show ((bindH (bindH (authH l5) fun nm r => bindH (peekH r) fun c r => if c = 47 ∨ c = 63 then bindH (runH seenB r) fun _ r => .ok (some nm, r) else .ok (some nm, r)) tailF)) = res by rw [← HE5.out, hx]; rfl)
                      have hl5 : l5.length ≤ 1000000 := Nat.le_trans (near_len (ends_text _).near hx) hl4
                      clear hx hr5
                      have HC6 := Lib.hid (auth_any w5 r (fun x k => HW.out x (HK5.out.trans k)) l5 HR5.out hl5)
                      go_wp2_with fail
                      refine HC6.out.mono ?_
                      rintro e w6 ⟨k6, ho⟩
                      have HK6 := Lib.hid (HK5.out.trans k6)
                      clear k6 HC6
                      cases hx : authH l5 with
                      | error k =>
                        rw [hx] at ho
                        dsimp only at ho
                        subst ho
                        have hn : res = .error k := by rw [← HE5.out, hx]; rfl
                        subst hn
                        clear hx
                        go_wp2_with fail
                        exact ⟨rfl, HK6.out, rfl⟩
                      | ok y =>
                        obtain ⟨a6, l6⟩ := y
                        rw [hx] at ho
                        dsimp only at ho
                        obtain ⟨rfl, hr6⟩ := ho
                        have HR6 := Lib.hid hr6
                        have HE6 := Lib.hid (show ((bindH (bindH (peekH l6) fun c r => if c = 47 ∨ c = 63 then bindH (runH seenB r) fun _ r => .ok (some a6, r) else .ok (some a6, r)) tailF)) = res by rw [← HE5.out, hx]; rfl)
                        have hl6 : l6.length ≤ 1000000 := Nat.le_trans (near_len near_auth hx) hl5
                        clear hx hr6
                        cases l6 with
                        | nil =>
                          have HP := Lib.hid (peek_none w6 r HR6.out)
                          have hn : res = .error 0 := HE6.out.symm
                          subst hn
                          go_wp2_with fail
                          refine HP.out.mono ?_
                          rintro e w7 ⟨rfl, rfl⟩
                          go_wp2_with fail
                          exact ⟨rfl, HK6.out, rfl⟩
                        | cons d l6 =>
                          have HP := Lib.hid (peek_some w6 r d l6 HR6.out)
                          go_wp2_with fail
                          refine HP.out.mono ?_
                          rintro e w7 ⟨rfl, hw⟩
                          obtain rfl := hw.symm
                          clear hw HP
                          by_cases hd47 : (d.toNat : Int) = 47
                          · have hd : d = 47 := (u8_eq d 47 (by omega)).2 hd47
                            have hd47b : ((d.toNat : Int) == 47) = true := beq_iff_eq.2 hd47
                            have HE7 := Lib.hid (show (bindH (bindH (runH seenB (d :: l6)) fun _ r => .ok (some a6, r)) tailF) = res by rw [← HE6.out]; simp [peekH, bindH_ok, hd])
                            clear hd47 hd
                            have HC8 := Lib.hid (run_any w6 r (d :: l6) _ seenB HR6.out hl6 (isF_seen [r] w6))
                            go_wp2_with fail
                            refine HC8.out.mono ?_
                            rintro e w8 ⟨k8, ho⟩
                            have HK8 := Lib.hid (HK6.out.trans k8)
                            clear k8 HC8
                            cases hx : runH seenB (d :: l6) with
                            | error k =>
                              rw [hx] at ho
                              dsimp only at ho
                              subst ho
                              have hn : res = .error k := by rw [← HE7.out, hx]; rfl
                              subst hn
                              clear hx
                              go_wp2_with fail
                              exact ⟨rfl, HK8.out, rfl⟩
                            | ok y =>
                              obtain ⟨a8, l8⟩ := y
                              rw [hx] at ho
                              dsimp only at ho
                              obtain ⟨rfl, hr8⟩ := ho
                              have HR8 := Lib.hid hr8
                              have HE8 := Lib.hid (show (tailF (some a6) l8) = res by rw [← HE7.out, hx]; rfl)
                              have hl8 : l8.length ≤ 1000000 := Nat.le_trans (near_len (near_run _) hx) hl6
                              clear hx hr8
                              go_wp2_with fail
                              go_meet
                              exact ⟨some a6, l8, rfl, rfl, HE8.out, hl8, HR8.out, HK8.out⟩
                          · have hd47b : ((d.toNat : Int) == 47) = false := beq_eq_false_iff_ne.2 hd47
                            have hn47 : ¬ d = 47 := fun e => hd47 ((u8_eq d 47 (by omega)).1 e)
                            by_cases hd63 : (d.toNat : Int) = 63
                            · have hd : d = 63 := (u8_eq d 63 (by omega)).2 hd63
                              have hd63b : ((d.toNat : Int) == 63) = true := beq_iff_eq.2 hd63
                              have HE7 := Lib.hid (show (bindH (bindH (runH seenB (d :: l6)) fun _ r => .ok (some a6, r)) tailF) = res by rw [← HE6.out]; simp [peekH, bindH_ok, hd])
                              clear hd47 hd63 hd hn47
                              have HC8 := Lib.hid (run_any w6 r (d :: l6) _ seenB HR6.out hl6 (isF_seen [r] w6))
                              go_wp2_with fail
                              refine HC8.out.mono ?_
                              rintro e w8 ⟨k8, ho⟩
                              have HK8 := Lib.hid (HK6.out.trans k8)
                              clear k8 HC8
                              cases hx : runH seenB (d :: l6) with
                              | error k =>
                                rw [hx] at ho
                                dsimp only at ho
                                subst ho
                                have hn : res = .error k := by rw [← HE7.out, hx]; rfl
                                subst hn
                                clear hx
                                go_wp2_with fail
                                exact ⟨rfl, HK8.out, rfl⟩
                              | ok y =>
                                obtain ⟨a8, l8⟩ := y
                                rw [hx] at ho
                                dsimp only at ho
                                obtain ⟨rfl, hr8⟩ := ho
                                have HR8 := Lib.hid hr8
                                have HE8 := Lib.hid (show (tailF (some a6) l8) = res by rw [← HE7.out, hx]; rfl)
                                have hl8 : l8.length ≤ 1000000 := Nat.le_trans (near_len (near_run _) hx) hl6
                                clear hx hr8
                                go_wp2_with fail
                                go_meet
                                exact ⟨some a6, l8, rfl, rfl, HE8.out, hl8, HR8.out, HK8.out⟩
                            · have hd63b : ((d.toNat : Int) == 63) = false := beq_eq_false_iff_ne.2 hd63
                              have hn63 : ¬ d = 63 := fun e => hd63 ((u8_eq d 63 (by omega)).1 e)
                              have HE7 := Lib.hid (show tailF (some a6) (d :: l6) = res by rw [← HE6.out]; simp [peekH, bindH_ok, hn47, hn63])
                              clear hd47 hd63 hn47 hn63
                              go_wp2_with fail
                              go_meet
                              exact ⟨some a6, d :: l6, rfl, rfl, HE7.out, hl6, HR6.out, HK6.out⟩
                  · have h104b : ((a4.toNat : Int) == 104) = false := beq_eq_false_iff_ne.2 h104
                    have hc104 : ¬ a4 = 104 := fun e => h104 ((u8_eq a4 104 (by omega)).1 e)
                    have HE5 := Lib.hid (show tailF none l4 = res by rw [← HE4.out]; simp [targetK, hc47, hc104, bindH_ok])
                    clear h47 h104 hc47 hc104
                    go_wp2_with fail
                    go_meet
                    exact ⟨none, l4, rfl, rfl, HE5.out, hl4, HR4.out, HK4.out⟩
              case rest =>
                obtain ⟨o, l5, rfl, rfl, hte, hl5, hr, hk⟩ := hcut
                have HK5 := Lib.hid hk
                have HR5 := Lib.hid hr
                have HE5 := Lib.hid (show (bindH (textH [32, 72, 84, 84, 80, 47, 49, 46] l5) fun _ r => bindH (nextH zerooneB r) fun _ r => bindH (textH [13, 10] r) fun _ r => .ok (o, r)) = res from hte)
                clear hk hr hte HK4 HE4 HR4
                have HC6 := Lib.hid (text_any wc r l5 [32, 72, 84, 84, 80, 47, 49, 46] HR5.out (by simp))
                go_wp2_with fail
                refine HC6.out.mono ?_
                rintro e w6 ⟨k6, ho⟩
                have HK6 := Lib.hid (HK5.out.trans k6)
                clear k6 HC6
                cases hx : textH [32, 72, 84, 84, 80, 47, 49, 46] l5 with
                | error k =>
                  rw [hx] at ho
                  dsimp only at ho
                  subst ho
                  have hn : res = .error k := by rw [← HE5.out, hx]; rfl
                  subst hn
                  clear hx
                  go_wp2_with fail
                  exact ⟨rfl, HK6.out, rfl⟩
                | ok y =>
                  obtain ⟨a6, l6⟩ := y
                  rw [hx] at ho
                  dsimp only at ho
                  obtain ⟨rfl, hr6⟩ := ho
                  have HR6 := Lib.hid hr6
                  have HE6 := Lib.hid (show (bindH (nextH zerooneB l6) fun _ r => bindH (textH [13, 10] r) fun _ r => .ok (o, r)) = res by rw [← HE5.out, hx]; rfl)
                  have hl6 : l6.length ≤ 1000000 := Nat.le_trans (near_len (ends_text _).near hx) hl5
                  clear hx hr6
                  have HC7 := Lib.hid (next_any w6 r l6 _ zerooneB HR6.out (isF_zeroone [] w6))
                  go_wp2_with fail
                  refine HC7.out.mono ?_
                  rintro e w7 ⟨k7, ho⟩
                  have HK7 := Lib.hid (HK6.out.trans k7)
                  clear k7 HC7
                  cases hx : nextH zerooneB l6 with
                  | error k =>
                    rw [hx] at ho
                    dsimp only at ho
                    subst ho
                    have hn : res = .error k := by rw [← HE6.out, hx]; rfl
                    subst hn
                    clear hx
                    go_wp2_with fail
                    exact ⟨rfl, HK7.out, rfl⟩
                  | ok y =>
                    obtain ⟨a7, l7⟩ := y
                    rw [hx] at ho
                    dsimp only at ho
                    obtain ⟨rfl, hr7⟩ := ho
                    have HR7 := Lib.hid hr7
                    have HE7 := Lib.hid (show (bindH (textH [13, 10] l7) fun _ r => .ok (o, r)) = res by rw [← HE6.out, hx]; rfl)
                    have hl7 : l7.length ≤ 1000000 := Nat.le_trans (near_len (near_next _) hx) hl6
                    clear hx hr7
                    have HC8 := Lib.hid (text_any w7 r l7 [13, 10] HR7.out (by simp))
                    go_wp2_with fail
                    refine HC8.out.mono ?_
                    rintro e w8 ⟨k8, ho⟩
                    have HK8 := Lib.hid (HK7.out.trans k8)
                    clear k8 HC8
                    cases hx : textH [13, 10] l7 with
                    | error k =>
                      rw [hx] at ho
                      dsimp only at ho
                      subst ho
                      have hn : res = .error k := by rw [← HE7.out, hx]; rfl
                      subst hn
                      clear hx
                      go_wp2_with fail
                      exact ⟨rfl, HK8.out, rfl⟩
                    | ok y =>
                      obtain ⟨a8, l8⟩ := y
                      rw [hx] at ho
                      dsimp only at ho
                      obtain ⟨rfl, hr8⟩ := ho
                      have HR8 := Lib.hid hr8
                      have HE8 := Lib.hid (show (.ok (o, l8)) = res by rw [← HE7.out, hx]; rfl)
                      have hl8 : l8.length ≤ 1000000 := Nat.le_trans (near_len (ends_text _).near hx) hl7
                      clear hx hr8
                      have hn : res = .ok (o, l8) := HE8.out.symm
                      subst hn
                      go_wp2_with fail
                      exact bodyPost_ret (v := optV o) (by simp [results, Tryz.results253, go_sem, optV]) rfl ⟨HK8.out, rfl, HR8.out⟩
        · have hc : ¬ c = 32 := fun e => h32 ((u8_eq c 32 (by omega)).1 e)
          have h32b : ((c.toNat : Int) != 32) = true := by simpa using h32
          have hme : methodH m (c :: l') = if 16 ≤ m then .error 3 else if capB c then methodH (m + 1) l' else .error 3 := by simp only [methodH, hc, if_false]
          have HME := Lib.hid hme
          clear h32 hc hme
          go_wp2_with fail
          refine HP.out.mono ?_
          rintro e w2 ⟨rfl, hw⟩
          obtain rfl := hw.symm
          clear hw HP
          by_cases hm16 : 16 ≤ m
          · have hmI : (16 : Int) ≤ (m : Int) := by omega
            have hn : res = .error 3 := by rw [← HRE.out, HME.out, if_pos hm16]; rfl
            subst hn
            clear hm16
            go_wp2_with fail
            exact ⟨rfl, HK2.out, rfl⟩
          · have hmI : ¬ (16 : Int) ≤ (m : Int) := by omega
            have HREM := Lib.hid (show (bindH (if capB c then methodH (m + 1) l' else .error 3) fun _ r => bindH (textH [32] r) fun _ r => bindH (targetH r) tailF) = res by rw [← HRE.out, HME.out, if_neg hm16])
            have HNX := Lib.hid (next_any wr r (c :: l') _ capB HR2.out (isF_capital [] wr))
            clear HME
            by_cases hcap : capB c = true
            · rw [show nextH capB (c :: l') = .ok (c, l') by simp [nextH, hcap]] at HNX
              rw [hcap] at HREM
              have hz : l'.length ≤ 1000000 := by simp at hl2; omega
              go_wp2_with fail
              refine HNX.out.mono ?_
              rintro e w3 ⟨k3, rfl, hr3⟩
              have HK3 := Lib.hid (HK2.out.trans k3)
              have HR3 := Lib.hid hr3
              clear k3 hr3 HNX
              go_wp2_with fail
              go_roundg l'.length
              case measure => simp
              case rel => exact ⟨m + 1, l', by go_num, by omega, rfl, by rw [← HREM.out]; simp, hz, HR3.out, HK3.out⟩
            · have hcap' : capB c = false := by simpa using hcap
              rw [show nextH capB (c :: l') = .error 3 by simp [nextH, hcap']] at HNX
              rw [hcap'] at HREM
              have hn : res = .error 3 := by rw [← HREM.out]; rfl
              subst hn
              clear hcap hcap'
              go_wp2_with fail
              refine HNX.out.mono ?_
              rintro e w3 ⟨k3, rfl⟩
              have HK3 := Lib.hid (HK2.out.trans k3)
              clear k3 HNX
              go_wp2_with fail
              exact ⟨rfl, HK3.out, rfl⟩
end Go.Proofs.YtocnkiojlifgpaaGreatDoor
