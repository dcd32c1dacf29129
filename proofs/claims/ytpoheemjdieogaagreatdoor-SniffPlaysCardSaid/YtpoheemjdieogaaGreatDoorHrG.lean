/-
  The walk of the document's field of HTTP: can a text begin a field's line. No condition but that the string is not long.
-/
import Derived.Test.YtpoheemjdieogaaGreatDoorHrF
namespace Go.Proofs.YtpoheemjdieogaaGreatDoor
open Go.RowKit Go.Lib
set_option linter.unusedVariables false
set_option linter.unusedSimpArgs false

def endT (v : List UInt8) : List UInt8 := (v.reverse.dropWhile blankB).reverse
def valueR (v : List UInt8) (whole : Bool) : Bool × Bool × List UInt8 :=
  (if whole = true ∨ (endT (v.dropWhile blankB)).length < (v.dropWhile blankB).length then (authV (endT (v.dropWhile blankB))).2 else beginAR (endT (v.dropWhile blankB)), true, (authV (endT (v.dropWhile blankB))).1)
def colonR (s M v : List UInt8) (whole : Bool) : Bool × Bool × List UInt8 :=
  if M = [] then (false, false, []) else if v.all shownB = false then (false, false, []) else
  if M.map lowerB = hostL then valueR v whole else (true, false, [])
def fieldR (s : List UInt8) (whole : Bool) : Bool × Bool × List UInt8 :=
  if (preL s 58).all wordB = false then (false, false, []) else
  if (preL s 58).length < s.length then colonR s (preL s 58) (s.drop ((preL s 58).length + 1)) whole else (!whole, false, [])
theorem endT_blank (p : List UInt8) (y : UInt8) (h : blankB y = true) : endT (p ++ [y]) = endT p := by
  unfold endT
  rw [List.reverse_append, List.reverse_singleton, List.singleton_append, List.dropWhile_cons, if_pos h]
theorem endT_not (p : List UInt8) (y : UInt8) (h : blankB y = false) : endT (p ++ [y]) = p ++ [y] := by
  unfold endT
  rw [List.reverse_append, List.reverse_singleton, List.singleton_append, List.dropWhile_cons, if_neg (by rw [h]; simp), List.reverse_cons, List.reverse_reverse]
set_option maxRecDepth 1000000 in
set_option maxHeartbeats 8000000 in
theorem rfield_any (w : World) (s : List UInt8) (whole : Bool) (hs : s.length ≤ 1000000) : Calls Tryz.prog 60 #[.string (bs s), .bool whole] w fun e w' => e = .returned (.tuple #[.bool (fieldR s whole).1, .bool (fieldR s whole).2.1, .string (bs (fieldR s whole).2.2)]) ∧ Keeps [] w w' := by
  obtain ⟨⟨r1, r2, r3⟩, hres⟩ : ∃ r, fieldR s whole = r := ⟨_, rfl⟩
  rw [hres]
  dsimp only
  have HU := Lib.hid (runtil_any w s 58 hs)
  rw [show ((58 : UInt8).toNat : Int) = 58 from rfl, untilR_pre] at HU
  have hle := preL_le s 58
  have htk := preL_take s 58
  have hun : fieldR s whole = if (preL s 58).all wordB = false then (false, false, []) else
      if (preL s 58).length < s.length then colonR s (preL s 58) (s.drop ((preL s 58).length + 1)) whole else (!whole, false, []) := rfl
  obtain ⟨M, hM⟩ : ∃ M, preL s 58 = M := ⟨_, rfl⟩
  rw [hM] at HU hle htk hun
  rw [hres] at hun
  have HUN := Lib.hid hun
  obtain ⟨L, hL⟩ : ∃ L, M.length = L := ⟨_, rfl⟩
  rw [hL] at HU hle htk
  have HL := Lib.hid hL
  have hsz : (bs s).size = s.length := rfl
  have hMz : (bs M).size = M.length := rfl
  have hML : M.length ≤ 1000000 := by omega
  have HMB := Lib.hid hML
  clear hres hun hM
  by_cases hA : L < s.length
  · rw [if_pos hA] at HU
    have HAA := Lib.hid hA
    have he : (bs s).extract 0 L = bs M := by rw [bs_ext, List.drop_zero, Nat.sub_zero, htk]
    have a1 : (0 : Int) ≤ (L : Int) := by omega
    have a2 : (L : Int) ≤ (s.length : Int) := by omega
    have a3 : ¬ (L : Int) < 0 := by omega
    go_enter Tryz.func60, Tryz.ntmps60
    go_wp2_with fail
    refine HU.out.mono ?_
    rintro e w1 ⟨rfl, h1⟩
    obtain rfl := h1.symm
    clear h1 HU hle htk hA
    go_wp2_with fail
    go_loopg [9] (M.length + 1) (fun g iv wx => ∃ (pre post : List UInt8), M = pre ++ post ∧ g = post.length + 1 ∧ iv = .int .i64 pre.length ∧ wx = w ∧ pre.all wordB = true)
    case atStart => exact ⟨[], M, rfl, rfl, rfl, rfl, rfl⟩
    case round =>
      obtain ⟨pre, post, hsp, hg, rfl, hwx, hall⟩ := hrel
      subst hg
      obtain rfl := hwx.symm
      clear hwx
      have hll : M.length = pre.length + post.length := by rw [hsp]; simp
      cases post with
      | nil =>
        have hlt : ¬ (pre.length : Int) < (M.length : Int) := by simp at hll; omega
        have hpm : pre = M := by rw [hsp]; simp
        rw [hpm] at hall
        have hst := HUN.out
        rw [if_neg (by rw [hall]; simp), if_pos (by rw [HL.out]; exact HAA.out)] at hst
        rw [HL.out] at hst
        unfold colonR at hst
        have hie := bs_isE M
        by_cases hM0 : M = []
        · rw [if_pos hM0] at hst
          have hie2 : (bs M).toList.isEmpty = true := by rw [hie, hM0]; rfl
          injection hst with h1 h2
          injection h2 with h2 h3
          subst h1 h2 h3
          clear hsp hll hall hpm hie hM0
          go_wp2_with fail
          go_ret3
          exact ⟨rfl, Keeps.refl _ _⟩
        rw [if_neg hM0] at hst
        have hie2 : (bs M).toList.isEmpty = false := by rw [hie]; simpa using hM0
        obtain ⟨R, hR⟩ : ∃ R, s.drop (L + 1) = R := ⟨_, rfl⟩
        rw [hR] at hst
        have hRl : R.length = s.length - (L + 1) := by rw [← hR, List.length_drop]
        have hRb : R.length ≤ 1000000 := by omega
        have HRB := Lib.hid hRb
        have hRz : (bs R).size = R.length := rfl
        have heR : (bs s).extract (L + 1) s.length = bs R := by rw [bs_ext, ← hR, List.take_of_length_le (by rw [List.length_drop]; omega)]
        have b1 : (0 : Int) ≤ (L : Int) + 1 := by omega
        have b2 : (L : Int) + 1 ≤ (s.length : Int) := by have := HAA.out; omega
        have hLb : L ≤ 1000000 := by have := HAA.out; omega
        have HST := Lib.hid hst
        clear hsp hll hall hpm hie hM0 hR hRl hst HUN
        go_wp2_with fail
        clear he a1 a2 a3 b1 b2 heR hsz
        go_loopg [11] (R.length + 1) (fun g iv wx => ∃ (pre post : List UInt8), R = pre ++ post ∧ g = post.length + 1 ∧ iv = .int .i64 pre.length ∧ wx = w ∧ pre.all shownB = true)
        case atStart => exact ⟨[], R, rfl, rfl, rfl, rfl, rfl⟩
        case round =>
          obtain ⟨pre, post, hsp, hg, rfl, hwx, hall⟩ := hrel
          subst hg
          obtain rfl := hwx.symm
          clear hwx
          have hll : R.length = pre.length + post.length := by rw [hsp]; simp
          cases post with
          | nil =>
            have hlt : ¬ (pre.length : Int) < (R.length : Int) := by simp at hll; omega
            have hpm : pre = R := by rw [hsp]; simp
            rw [hpm] at hall
            have hst := HST.out
            rw [if_neg (by rw [hall]; simp)] at hst
            obtain ⟨Fw, hF⟩ : ∃ Fw, M.map lowerB = Fw := ⟨_, rfl⟩
            have HFO := Lib.hid (rfolded_any w M (by have := HMB.out; omega))
            rw [hF] at HFO hst
            have hq : ((bs Fw).toList == ([104, 111, 115, 116] : List UInt8)) = decide (Fw = hostL) := by
              rw [Lib.toList_data]
              show (Fw == hostL) = _
              by_cases h : Fw = hostL <;> simp [h]
            clear hsp hll hall hpm HST hF
            by_cases hh : Fw = hostL
            · rw [if_pos hh] at hst
              rw [decide_eq_true hh] at hq
              have HST := Lib.hid hst
              clear hst hh
              go_wp2_with fail
              refine HFO.out.mono ?_
              rintro e w1 ⟨rfl, k1⟩
              have K1 := Lib.hid k1
              clear k1 HFO
              go_wp2_with fail
              clear hq hRz hlt hie2 hLb
              go_loopg [10] (R.length + 1) (fun g vv wx => ∃ q : List UInt8, q.length ≤ R.length ∧ g = q.length + 1 ∧ vv = .string (bs q) ∧ wx = w1 ∧ Hid (q.dropWhile blankB = R.dropWhile blankB))
              case atStart => exact ⟨R, Nat.le_refl _, rfl, rfl, rfl, Lib.hid rfl⟩
              case round =>
                obtain ⟨q, hqR, hg, rfl, hwx, HQ⟩ := hrel
                subst hg
                obtain rfl := hwx.symm
                clear hwx
                have hqz : (bs q).size = q.length := rfl
                by_cases hgo : ∃ y t, q = y :: t ∧ blankB y = true
                · obtain ⟨y, t, hyt, hy⟩ := hgo
                  have hql : q.length = t.length + 1 := by rw [hyt]; rfl
                  have hlt : (0 : Int) < (q.length : Int) := by omega
                  have hlt3 : 0 < (bs q).size := by omega
                  have hg2' : ∀ h, (bs q)[0]'h = y := by rw [hyt]; exact fun h => bs_mid [] t y h
                  have hg2 := hg2' hlt3
                  have he1 : (bs q).extract 1 q.length = bs t := by rw [bs_ext, hyt]; simp
                  have hl1 : (1 : Int) ≤ (q.length : Int) := by omega
                  have CB := Lib.hid (rblank_any w1 y)
                  rw [hy] at CB
                  have HQ2 := Lib.hid (show t.dropWhile blankB = R.dropWhile blankB by rw [← HQ.out, hyt, List.dropWhile_cons, if_pos hy])
                  have HB2 := Lib.hid (show t.length ≤ R.length ∧ t.length + 1 < q.length + 1 by omega)
                  clear hyt hy hg2' hql HQ hqR
                  go_wp2_with (first | (go_at_call 102; refine CB.out.mono ?_; rintro e w2 ⟨rfl, hw1⟩; obtain rfl := hw1.symm; clear hw1))
                  go_roundg (t.length + 1)
                  case measure => exact HB2.out.2
                  case rel => exact ⟨t, HB2.out.1, rfl, rfl, rfl, HQ2⟩
                · have hqd : R.dropWhile blankB = q := by
                    rw [← HQ.out]
                    cases q with
                    | nil => rfl
                    | cons y t =>
                      rw [List.dropWhile_cons, if_neg]
                      intro h
                      exact hgo ⟨y, t, rfl, h⟩
                  have HQB := Lib.hid hqR
                  have HQD := Lib.hid hqd
                  by_cases hqq : q = []
                  · have hlt : ¬ (0 : Int) < (q.length : Int) := by rw [hqq]; simp
                    clear hqq hgo hqd hqR HQ
                    go_wp2_with fail
                    clear hlt
                    go_loopg [10] (q.length + 1) (fun g vv wx => ∃ p : List UInt8, p.length ≤ q.length ∧ g = p.length + 1 ∧ vv = .string (bs p) ∧ wx = w1 ∧ Hid (endT p = endT q))
                    case atStart => exact ⟨q, Nat.le_refl _, rfl, rfl, rfl, Lib.hid rfl⟩
                    case round =>
                      obtain ⟨p, hpq, hg, rfl, hwx, HP⟩ := hrel
                      subst hg
                      obtain rfl := hwx.symm
                      clear hwx
                      have hpz : (bs p).size = p.length := rfl
                      have HPB := Lib.hid hpq
                      rcases List.eq_nil_or_concat p with hp | ⟨t, y, hp⟩
                      · have hlt : ¬ (0 : Int) < (p.length : Int) := by rw [hp]; simp
                        have HPD := Lib.hid (show endT q = p by rw [← HP.out, hp]; rfl)
                        clear hp hpq
                        have HAU := Lib.hid (rauthority_any w1 p (by have := HRB.out; have := HPB.out; have := HQB.out; omega))
                        have HBE := Lib.hid (fun w2 => rbeginA_any w2 p (by have := HRB.out; have := HPB.out; have := HQB.out; omega))
                        have hst : (r1, r2, r3) = (if whole = true ∨ p.length < q.length then (authV p).2 else beginAR p, true, (authV p).1) := by
                          rw [HST.out]
                          unfold valueR
                          rw [HQD.out, HPD.out]
                        injection hst with h1 h2
                        injection h2 with h2 h3
                        subst h2 h3
                        cases whole with
                        | true =>
                          rw [if_pos (Or.inl rfl)] at h1
                          subst h1
                          clear HBE
                          go_wp2_with fail
                          refine HAU.out.mono ?_
                          rintro e w2 ⟨rfl, k2⟩
                          have K2 := Lib.hid (K1.out.trans k2)
                          clear k2 HAU
                          go_wp2_with fail
                          go_ret3
                          exact ⟨rfl, K2.out⟩
                        | false =>
                          by_cases hpq : p.length < q.length
                          · rw [if_pos (Or.inr hpq)] at h1
                            have hpqI : (p.length : Int) < (q.length : Int) := by omega
                            subst h1
                            clear HBE hpq
                            go_wp2_with fail
                            all_goals (
                              refine HAU.out.mono ?_
                              rintro e w2 ⟨rfl, k2⟩
                              have K2 := Lib.hid (K1.out.trans k2)
                              clear k2 HAU
                              go_wp2_with fail
                              go_ret3
                              exact ⟨rfl, K2.out⟩)
                          · rw [if_neg (by simp [hpq])] at h1
                            have hpqI : ¬ (p.length : Int) < (q.length : Int) := by omega
                            subst h1
                            clear hpq
                            go_wp2_with fail
                            all_goals (
                              refine HAU.out.mono ?_
                              rintro e w2 ⟨rfl, k2⟩
                              have K2 := Lib.hid (K1.out.trans k2)
                              have HB2 := Lib.hid (HBE.out w2)
                              clear k2 HAU HBE
                              go_wp2_with fail
                              refine HB2.out.mono ?_
                              rintro e w3 ⟨rfl, k3⟩
                              have K3 := Lib.hid (K2.out.trans k3)
                              clear k3 HB2
                              go_wp2_with fail
                              go_ret3
                              exact ⟨rfl, K3.out⟩)
                      · rw [List.concat_eq_append] at hp
                        have hpl : p.length = t.length + 1 := by rw [hp]; simp
                        have hlt : (0 : Int) < (p.length : Int) := by omega
                        have hpb : p.length ≤ 1000000 := by have := HRB.out; have := HQB.out; omega
                        have hw0 : IntKind.i64.wrap ((p.length : Int) - 1) = (t.length : Int) := by rw [wrap_in] <;> omega
                        have hlt3 : t.length < (bs p).size := by omega
                        have hg2' : ∀ h, (bs p)[t.length]'h = y := by rw [hp]; exact fun h => bs_mid t [] y h
                        have hg2 := hg2' hlt3
                        have he1 : (bs p).extract 0 t.length = bs t := by rw [bs_ext, hp]; simp
                        have hl0 : (0 : Int) ≤ (t.length : Int) := by omega
                        have hl1 : (t.length : Int) ≤ (p.length : Int) := by omega
                        have CB := Lib.hid (rblank_any w1 y)
                        cases hy : blankB y with
                        | true =>
                          rw [hy] at CB
                          have HP2 := Lib.hid (show endT t = endT q by rw [← HP.out, hp, endT_blank _ _ hy])
                          have HB2 := Lib.hid (show t.length ≤ q.length ∧ t.length + 1 < p.length + 1 by omega)
                          clear hp hy hg2' hpl HP hpq
                          go_wp2_with (first | (go_at_call 102; refine CB.out.mono ?_; rintro e w2 ⟨rfl, hw1⟩; obtain rfl := hw1.symm; clear hw1))
                          go_roundg (t.length + 1)
                          case measure => exact HB2.out.2
                          case rel => exact ⟨t, HB2.out.1, rfl, rfl, rfl, HP2⟩
                        | false =>
                          rw [hy] at CB
                          have HPD := Lib.hid (show endT q = p by rw [← HP.out, hp, endT_not _ _ hy])
                          clear hp hy hg2' hpl hpq
                          go_wp2_with (first | (go_at_call 102; refine CB.out.mono ?_; rintro e w2 ⟨rfl, hw1⟩; obtain rfl := hw1.symm; clear hw1; clear CB hw0 hg2 hlt3 he1 hl0 hl1 hlt))
                          have HAU := Lib.hid (rauthority_any w1 p (by have := HRB.out; have := HPB.out; have := HQB.out; omega))
                          have HBE := Lib.hid (fun w2 => rbeginA_any w2 p (by have := HRB.out; have := HPB.out; have := HQB.out; omega))
                          have hst : (r1, r2, r3) = (if whole = true ∨ p.length < q.length then (authV p).2 else beginAR p, true, (authV p).1) := by
                            rw [HST.out]
                            unfold valueR
                            rw [HQD.out, HPD.out]
                          injection hst with h1 h2
                          injection h2 with h2 h3
                          subst h2 h3
                          cases whole with
                          | true =>
                            rw [if_pos (Or.inl rfl)] at h1
                            subst h1
                            clear HBE
                            go_wp2_with fail
                            refine HAU.out.mono ?_
                            rintro e w2 ⟨rfl, k2⟩
                            have K2 := Lib.hid (K1.out.trans k2)
                            clear k2 HAU
                            go_wp2_with fail
                            go_ret3
                            exact ⟨rfl, K2.out⟩
                          | false =>
                            by_cases hpq : p.length < q.length
                            · rw [if_pos (Or.inr hpq)] at h1
                              have hpqI : (p.length : Int) < (q.length : Int) := by omega
                              subst h1
                              clear HBE hpq
                              go_wp2_with fail
                              all_goals (
                                refine HAU.out.mono ?_
                                rintro e w2 ⟨rfl, k2⟩
                                have K2 := Lib.hid (K1.out.trans k2)
                                clear k2 HAU
                                go_wp2_with fail
                                go_ret3
                                exact ⟨rfl, K2.out⟩)
                            · rw [if_neg (by simp [hpq])] at h1
                              have hpqI : ¬ (p.length : Int) < (q.length : Int) := by omega
                              subst h1
                              clear hpq
                              go_wp2_with fail
                              all_goals (
                                refine HAU.out.mono ?_
                                rintro e w2 ⟨rfl, k2⟩
                                have K2 := Lib.hid (K1.out.trans k2)
                                have HB2 := Lib.hid (HBE.out w2)
                                clear k2 HAU HBE
                                go_wp2_with fail
                                refine HB2.out.mono ?_
                                rintro e w3 ⟨rfl, k3⟩
                                have K3 := Lib.hid (K2.out.trans k3)
                                clear k3 HB2
                                go_wp2_with fail
                                go_ret3
                                exact ⟨rfl, K3.out⟩)
                  · obtain ⟨y, t, hqq⟩ := List.exists_cons_of_ne_nil hqq
                    have hy : blankB y = false := by
                      cases h : blankB y with
                      | false => rfl
                      | true => exact absurd ⟨y, t, hqq, h⟩ hgo
                    have hlt : (0 : Int) < (q.length : Int) := by rw [hqq]; simp
                    have hlt3 : 0 < (bs q).size := by rw [hqz, hqq]; simp
                    have hg2' : ∀ h, (bs q)[0]'h = y := by rw [hqq]; exact fun h => bs_mid [] t y h
                    have hg2 := hg2' hlt3
                    have CB := Lib.hid (rblank_any w1 y)
                    rw [hy] at CB
                    clear hqq hy hg2' hgo hqd hqR HQ
                    go_wp2_with (first | (go_at_call 102; refine CB.out.mono ?_; rintro e w2 ⟨rfl, hw1⟩; obtain rfl := hw1.symm; clear hw1; clear CB hg2 hlt3))
                    clear hlt
                    go_loopg [10] (q.length + 1) (fun g vv wx => ∃ p : List UInt8, p.length ≤ q.length ∧ g = p.length + 1 ∧ vv = .string (bs p) ∧ wx = w1 ∧ Hid (endT p = endT q))
                    case atStart => exact ⟨q, Nat.le_refl _, rfl, rfl, rfl, Lib.hid rfl⟩
                    case round =>
                      obtain ⟨p, hpq, hg, rfl, hwx, HP⟩ := hrel
                      subst hg
                      obtain rfl := hwx.symm
                      clear hwx
                      have hpz : (bs p).size = p.length := rfl
                      have HPB := Lib.hid hpq
                      rcases List.eq_nil_or_concat p with hp | ⟨t, y, hp⟩
                      · have hlt : ¬ (0 : Int) < (p.length : Int) := by rw [hp]; simp
                        have HPD := Lib.hid (show endT q = p by rw [← HP.out, hp]; rfl)
                        clear hp hpq
                        have HAU := Lib.hid (rauthority_any w1 p (by have := HRB.out; have := HPB.out; have := HQB.out; omega))
                        have HBE := Lib.hid (fun w2 => rbeginA_any w2 p (by have := HRB.out; have := HPB.out; have := HQB.out; omega))
                        have hst : (r1, r2, r3) = (if whole = true ∨ p.length < q.length then (authV p).2 else beginAR p, true, (authV p).1) := by
                          rw [HST.out]
                          unfold valueR
                          rw [HQD.out, HPD.out]
                        injection hst with h1 h2
                        injection h2 with h2 h3
                        subst h2 h3
                        cases whole with
                        | true =>
                          rw [if_pos (Or.inl rfl)] at h1
                          subst h1
                          clear HBE
                          go_wp2_with fail
                          refine HAU.out.mono ?_
                          rintro e w2 ⟨rfl, k2⟩
                          have K2 := Lib.hid (K1.out.trans k2)
                          clear k2 HAU
                          go_wp2_with fail
                          go_ret3
                          exact ⟨rfl, K2.out⟩
                        | false =>
                          by_cases hpq : p.length < q.length
                          · rw [if_pos (Or.inr hpq)] at h1
                            have hpqI : (p.length : Int) < (q.length : Int) := by omega
                            subst h1
                            clear HBE hpq
                            go_wp2_with fail
                            all_goals (
                              refine HAU.out.mono ?_
                              rintro e w2 ⟨rfl, k2⟩
                              have K2 := Lib.hid (K1.out.trans k2)
                              clear k2 HAU
                              go_wp2_with fail
                              go_ret3
                              exact ⟨rfl, K2.out⟩)
                          · rw [if_neg (by simp [hpq])] at h1
                            have hpqI : ¬ (p.length : Int) < (q.length : Int) := by omega
                            subst h1
                            clear hpq
                            go_wp2_with fail
                            all_goals (
                              refine HAU.out.mono ?_
                              rintro e w2 ⟨rfl, k2⟩
                              have K2 := Lib.hid (K1.out.trans k2)
                              have HB2 := Lib.hid (HBE.out w2)
                              clear k2 HAU HBE
                              go_wp2_with fail
                              refine HB2.out.mono ?_
                              rintro e w3 ⟨rfl, k3⟩
                              have K3 := Lib.hid (K2.out.trans k3)
                              clear k3 HB2
                              go_wp2_with fail
                              go_ret3
                              exact ⟨rfl, K3.out⟩)
                      · rw [List.concat_eq_append] at hp
                        have hpl : p.length = t.length + 1 := by rw [hp]; simp
                        have hlt : (0 : Int) < (p.length : Int) := by omega
                        have hpb : p.length ≤ 1000000 := by have := HRB.out; have := HQB.out; omega
                        have hw0 : IntKind.i64.wrap ((p.length : Int) - 1) = (t.length : Int) := by rw [wrap_in] <;> omega
                        have hlt3 : t.length < (bs p).size := by omega
                        have hg2' : ∀ h, (bs p)[t.length]'h = y := by rw [hp]; exact fun h => bs_mid t [] y h
                        have hg2 := hg2' hlt3
                        have he1 : (bs p).extract 0 t.length = bs t := by rw [bs_ext, hp]; simp
                        have hl0 : (0 : Int) ≤ (t.length : Int) := by omega
                        have hl1 : (t.length : Int) ≤ (p.length : Int) := by omega
                        have CB := Lib.hid (rblank_any w1 y)
                        cases hy : blankB y with
                        | true =>
                          rw [hy] at CB
                          have HP2 := Lib.hid (show endT t = endT q by rw [← HP.out, hp, endT_blank _ _ hy])
                          have HB2 := Lib.hid (show t.length ≤ q.length ∧ t.length + 1 < p.length + 1 by omega)
                          clear hp hy hg2' hpl HP hpq
                          go_wp2_with (first | (go_at_call 102; refine CB.out.mono ?_; rintro e w2 ⟨rfl, hw1⟩; obtain rfl := hw1.symm; clear hw1))
                          go_roundg (t.length + 1)
                          case measure => exact HB2.out.2
                          case rel => exact ⟨t, HB2.out.1, rfl, rfl, rfl, HP2⟩
                        | false =>
                          rw [hy] at CB
                          have HPD := Lib.hid (show endT q = p by rw [← HP.out, hp, endT_not _ _ hy])
                          clear hp hy hg2' hpl hpq
                          go_wp2_with (first | (go_at_call 102; refine CB.out.mono ?_; rintro e w2 ⟨rfl, hw1⟩; obtain rfl := hw1.symm; clear hw1; clear CB hw0 hg2 hlt3 he1 hl0 hl1 hlt))
                          have HAU := Lib.hid (rauthority_any w1 p (by have := HRB.out; have := HPB.out; have := HQB.out; omega))
                          have HBE := Lib.hid (fun w2 => rbeginA_any w2 p (by have := HRB.out; have := HPB.out; have := HQB.out; omega))
                          have hst : (r1, r2, r3) = (if whole = true ∨ p.length < q.length then (authV p).2 else beginAR p, true, (authV p).1) := by
                            rw [HST.out]
                            unfold valueR
                            rw [HQD.out, HPD.out]
                          injection hst with h1 h2
                          injection h2 with h2 h3
                          subst h2 h3
                          cases whole with
                          | true =>
                            rw [if_pos (Or.inl rfl)] at h1
                            subst h1
                            clear HBE
                            go_wp2_with fail
                            refine HAU.out.mono ?_
                            rintro e w2 ⟨rfl, k2⟩
                            have K2 := Lib.hid (K1.out.trans k2)
                            clear k2 HAU
                            go_wp2_with fail
                            go_ret3
                            exact ⟨rfl, K2.out⟩
                          | false =>
                            by_cases hpq : p.length < q.length
                            · rw [if_pos (Or.inr hpq)] at h1
                              have hpqI : (p.length : Int) < (q.length : Int) := by omega
                              subst h1
                              clear HBE hpq
                              go_wp2_with fail
                              all_goals (
                                refine HAU.out.mono ?_
                                rintro e w2 ⟨rfl, k2⟩
                                have K2 := Lib.hid (K1.out.trans k2)
                                clear k2 HAU
                                go_wp2_with fail
                                go_ret3
                                exact ⟨rfl, K2.out⟩)
                            · rw [if_neg (by simp [hpq])] at h1
                              have hpqI : ¬ (p.length : Int) < (q.length : Int) := by omega
                              subst h1
                              clear hpq
                              go_wp2_with fail
                              all_goals (
                                refine HAU.out.mono ?_
                                rintro e w2 ⟨rfl, k2⟩
                                have K2 := Lib.hid (K1.out.trans k2)
                                have HB2 := Lib.hid (HBE.out w2)
                                clear k2 HAU HBE
                                go_wp2_with fail
                                refine HB2.out.mono ?_
                                rintro e w3 ⟨rfl, k3⟩
                                have K3 := Lib.hid (K2.out.trans k3)
                                clear k3 HB2
                                go_wp2_with fail
                                go_ret3
                                exact ⟨rfl, K3.out⟩)
            · rw [if_neg hh] at hst
              rw [decide_eq_false hh] at hq
              injection hst with h1 h2
              injection h2 with h2 h3
              subst h1 h2 h3
              clear hh
              go_wp2_with fail
              refine HFO.out.mono ?_
              rintro e w1 ⟨rfl, k1⟩
              have K1 := Lib.hid k1
              clear k1 HFO
              go_wp2_with fail
              go_ret3
              exact ⟨rfl, K1.out⟩
          | cons x post =>
            have hlt : (pre.length : Int) < (R.length : Int) := by simp at hll; omega
            have hget : ∀ h, (bs R)[pre.length]'h = x := by rw [hsp]; exact fun h => bs_mid pre post x h
            have hlt3 : pre.length < (bs R).size := by rw [bs_size]; simp at hll; omega
            have hg2 := hget hlt3
            have hpb : pre.length ≤ 1000000 := by simp at hll; omega
            have CC := Lib.hid (rshown_any w x)
            have HSP := Lib.hid hsp
            cases hx : shownB x with
            | false =>
              rw [hx] at CC
              have hr : (r1, r2, r3) = (false, false, []) := by
                rw [HST.out, if_pos (List.all_eq_false.2 ⟨x, by rw [hsp]; simp, by rw [hx]; simp⟩)]
              injection hr with h1 h2
              injection h2 with h2 h3
              subst h1 h2 h3
              clear hsp hll hall hget hx HST
              go_wp2_with (first | (go_at_call 100; refine CC.out.mono ?_; rintro e w1 ⟨rfl, hw1⟩; obtain rfl := hw1.symm; clear hw1))
              go_ret3
              exact ⟨rfl, Keeps.refl _ _⟩
            | true =>
              rw [hx] at CC
              have HAL := Lib.hid (show (pre ++ [x]).all shownB = true by rw [List.all_append, hall]; simp [hx])
              clear hsp hll hall hget hx
              go_wp2_with (first | (go_at_call 100; refine CC.out.mono ?_; rintro e w1 ⟨rfl, hw1⟩; obtain rfl := hw1.symm; clear hw1))
              go_roundg (post.length + 1)
              case measure => simp
              case rel => exact ⟨pre ++ [x], post, by rw [HSP.out]; simp, rfl, by simp, rfl, HAL.out⟩
      | cons x post =>
        have hlt : (pre.length : Int) < (M.length : Int) := by simp at hll; omega
        have hget : ∀ h, (bs M)[pre.length]'h = x := by rw [hsp]; exact fun h => bs_mid pre post x h
        have hlt3 : pre.length < (bs M).size := by rw [bs_size]; simp at hll; omega
        have hg2 := hget hlt3
        have hpb : pre.length ≤ 1000000 := by simp at hll; omega
        have CC := Lib.hid (rworded_any w x)
        have HSP := Lib.hid hsp
        cases hx : wordB x with
        | false =>
          rw [hx] at CC
          have hr : (r1, r2, r3) = (false, false, []) := by
            rw [HUN.out, if_pos (List.all_eq_false.2 ⟨x, by rw [hsp]; simp, by rw [hx]; simp⟩)]
          injection hr with h1 h2
          injection h2 with h2 h3
          subst h1 h2 h3
          clear hsp hll hall hget hx HUN
          go_wp2_with (first | (go_at_call 99; refine CC.out.mono ?_; rintro e w1 ⟨rfl, hw1⟩; obtain rfl := hw1.symm; clear hw1))
          go_ret3
          exact ⟨rfl, Keeps.refl _ _⟩
        | true =>
          rw [hx] at CC
          have HAL := Lib.hid (show (pre ++ [x]).all wordB = true by rw [List.all_append, hall]; simp [hx])
          clear hsp hll hall hget hx
          go_wp2_with (first | (go_at_call 99; refine CC.out.mono ?_; rintro e w1 ⟨rfl, hw1⟩; obtain rfl := hw1.symm; clear hw1))
          go_roundg (post.length + 1)
          case measure => simp
          case rel => exact ⟨pre ++ [x], post, by rw [HSP.out]; simp, rfl, by simp, rfl, HAL.out⟩
  · rw [if_neg hA] at HU
    have hMs : M = s := by rw [← htk, List.take_of_length_le (by omega)]
    subst hMs
    have m1 : (-1 : Int) < 0 := by decide
    go_enter Tryz.func60, Tryz.ntmps60
    go_wp2_with fail
    refine HU.out.mono ?_
    rintro e w1 ⟨rfl, h1⟩
    obtain rfl := h1.symm
    clear h1 HU hle htk hA
    go_wp2_with fail
    go_loopg [9] (M.length + 1) (fun g iv wx => ∃ (pre post : List UInt8), M = pre ++ post ∧ g = post.length + 1 ∧ iv = .int .i64 pre.length ∧ wx = w ∧ pre.all wordB = true)
    case atStart => exact ⟨[], M, rfl, rfl, rfl, rfl, rfl⟩
    case round =>
      obtain ⟨pre, post, hsp, hg, rfl, hwx, hall⟩ := hrel
      subst hg
      obtain rfl := hwx.symm
      clear hwx
      have hll : M.length = pre.length + post.length := by rw [hsp]; simp
      cases post with
      | nil =>
        have hlt : ¬ (pre.length : Int) < (M.length : Int) := by simp at hll; omega
        have hpm : pre = M := by rw [hsp]; simp
        rw [hpm] at hall
        have hst := HUN.out
        rw [if_neg (by rw [hall]; simp), if_neg (Nat.lt_irrefl _)] at hst
        injection hst with h1 h2
        injection h2 with h2 h3
        subst h1 h2 h3
        clear hsp hll hall hpm HUN
        go_wp2_with fail
        go_ret3
        exact ⟨rfl, Keeps.refl _ _⟩
      | cons x post =>
        have hlt : (pre.length : Int) < (M.length : Int) := by simp at hll; omega
        have hget : ∀ h, (bs M)[pre.length]'h = x := by rw [hsp]; exact fun h => bs_mid pre post x h
        have hlt3 : pre.length < (bs M).size := by rw [bs_size]; simp at hll; omega
        have hg2 := hget hlt3
        have hpb : pre.length ≤ 1000000 := by simp at hll; omega
        have CC := Lib.hid (rworded_any w x)
        have HSP := Lib.hid hsp
        cases hx : wordB x with
        | false =>
          rw [hx] at CC
          have hr : (r1, r2, r3) = (false, false, []) := by
            rw [HUN.out, if_pos (List.all_eq_false.2 ⟨x, by rw [hsp]; simp, by rw [hx]; simp⟩)]
          injection hr with h1 h2
          injection h2 with h2 h3
          subst h1 h2 h3
          clear hsp hll hall hget hx HUN
          go_wp2_with (first | (go_at_call 99; refine CC.out.mono ?_; rintro e w1 ⟨rfl, hw1⟩; obtain rfl := hw1.symm; clear hw1))
          go_ret3
          exact ⟨rfl, Keeps.refl _ _⟩
        | true =>
          rw [hx] at CC
          have HAL := Lib.hid (show (pre ++ [x]).all wordB = true by rw [List.all_append, hall]; simp [hx])
          clear hsp hll hall hget hx
          go_wp2_with (first | (go_at_call 99; refine CC.out.mono ?_; rintro e w1 ⟨rfl, hw1⟩; obtain rfl := hw1.symm; clear hw1))
          go_roundg (post.length + 1)
          case measure => simp
          case rel => exact ⟨pre ++ [x], post, by rw [HSP.out]; simp, rfl, by simp, rfl, HAL.out⟩
end Go.Proofs.YtpoheemjdieogaaGreatDoor
