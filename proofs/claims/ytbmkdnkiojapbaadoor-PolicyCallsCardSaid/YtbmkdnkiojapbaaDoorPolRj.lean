/-
  The walk of the document's All: the rules, rising by name. Condition: the rules may stand together, and lie in memory as the slice says.
-/
import Derived.Test.YtbmkdnkiojapbaaDoorPolC
import Derived.Test.YtbmkdnkiojapbaaDoorPolE
namespace Go.Proofs.YtbmkdnkiojapbaaDoor
open Go.RowKit Go.Lib
set_option linter.unusedVariables false
set_option linter.unusedSimpArgs false

theorem OwnR.base {w : World} {b b' : Nat} {v : Value} {l : List PR} (h : OwnR w b v l) (hb : b' ≤ b) : OwnR w b' v l := by
  refine ⟨h.1, ?_⟩
  rcases h.2 with h1 | ⟨g, cap, cur, h1, h2, h3⟩
  · exact .inl h1
  · exact .inr ⟨g, cap, cur, h1, by omega, h3⟩
/-- a rule at its place -/
theorem rising_in {ls : List PR} {k : Nat} {x : PR} (h : Rising ls) (h1 : ∀ y ∈ ls.take k, ltOf cfR y x = true) (h2 : ∀ y ∈ (ls.drop k).head?, ltOf cfR y x = false) : Rising (ls.take k ++ x :: ls.drop k) := by
  unfold Rising at *
  rw [← List.take_append_drop k ls, List.pairwise_append] at h
  obtain ⟨g1, g2, g3⟩ := h
  have hd : ∀ z ∈ ls.drop k, ltOf cfR z x = false := by
    cases hds : ls.drop k with
    | nil => simp
    | cons a t =>
      rw [hds] at h2 g2
      have ha := h2 a rfl
      intro z hz
      rcases List.mem_cons.1 hz with rfl | hz
      · exact ha
      · rw [List.pairwise_cons] at g2
        exact cfR_swo.ntrans z a x (g2.1 z hz) ha
  refine List.pairwise_append.2 ⟨g1, List.pairwise_cons.2 ⟨hd, g2⟩, fun a ha b hb => ?_⟩
  rcases List.mem_cons.1 hb with rfl | hb
  · have := h1 a ha
    cases hx : ltOf cfR b a with
    | false => rfl
    | true =>
      have h3 := cfR_swo.trans a b a this hx
      rw [cfR_swo.irrefl] at h3
      cases h3
  · exact g3 a ha b hb
theorem perm_in {ls : List PR} (k : Nat) (x : PR) {m : List PR} (h : ls.Perm m) : (ls.take k ++ x :: ls.drop k).Perm (m ++ [x]) := by
  refine (List.perm_middle).trans ?_
  rw [List.take_append_drop]
  exact (h.cons x).trans (List.perm_append_comm (l₁ := [x]))
theorem bless_eq : ∀ a b : List UInt8, Op.bytesLess a b = decide (compareBytes a b < 0)
  | [], [] => by simp [Op.bytesLess, compareBytes]
  | [], _ :: _ => by simp [Op.bytesLess, compareBytes]
  | _ :: _, [] => by simp [Op.bytesLess, compareBytes]
  | x :: a, y :: b => by
    have ih := bless_eq a b
    by_cases h1 : x < y
    · simp [Op.bytesLess, compareBytes, h1]
    · by_cases h2 : y < x
      · have h3 : ¬ x = y := by rintro rfl; exact h1 h2
        simp [Op.bytesLess, compareBytes, h1, h2, h3]
      · have h3 : x = y := by
          apply UInt8.toNat_inj.1
          rw [UInt8.lt_iff_toNat_lt] at h1 h2
          omega
        simp [Op.bytesLess, compareBytes, h3, ih]
set_option maxRecDepth 100000 in
set_option maxHeartbeats 16000000 in
theorem rall_any (w : World) (A : Option Addr) (n k : Nat) (c : PC) (l : List PR) (hn : l.length = n) (hm : mayL c l = true) (hl : RulesAt w A l) :
    Calls Tryd.prog 22 #[.slice A n k] w fun e w' => ∃ (v : Value) (l' : List PR), e = .returned v ∧ l'.Perm l ∧ Rising l' ∧ OwnR w' w.heap.size v l' ∧ Keeps [] w w' := by
  have hb : n ≤ 256 := by rw [← hn]; exact ((mayL_iff c l).1 hm).2.2
  have HN := Lib.hid (And.intro hn hb)
  have HL := Lib.hid (fun (W : World) (kz : Keeps [] w W) => hl.keep0 kz)
  clear hn hm hl hb
  go_enter Tryd.func22, Tryd.ntmps22
  go_wp2_with fail
  go_loopw [3, 4] (fun ov iv wr => ∃ (i : Nat) (ls : List PR), iv = .int .i64 i ∧ i ≤ n ∧ Hid (OwnR wr w.heap.size ov ls ∧ ls.Perm (l.take i) ∧ Rising ls ∧ Keeps [] w wr)) (fun _ iv _ => n - (intOf iv).toNat)
  case atStart => exact ⟨0, [], rfl, by omega, Lib.hid ⟨OwnR.nil _ _, by simp, List.Pairwise.nil, Keeps.refl _ _⟩⟩
  case round =>
    obtain ⟨i, ls, rfl, hi, HI⟩ := hrel
    have hn256 : n ≤ 256 := HN.out.2
    obtain ⟨A1, c1, rfl, hra, hlc, hcm⟩ := HI.out.1.rules
    obtain ⟨n1, hn1⟩ : ∃ n1, ls.length = n1 := ⟨_, rfl⟩
    have hn1i : n1 = min i n := by rw [← hn1, HI.out.2.1.length_eq, List.length_take, HN.out.1]
    have hn1n : n1 ≤ n := by omega
    have HNI := Lib.hid hn1i
    rw [hn1] at hlc ⊢
    clear hn1i
    have HN1 := Lib.hid hn1
    have HRA := Lib.hid hra
    clear hn1 hra
    by_cases hlt : i < n
    · have hlt' : (i : Int) < n := by omega
      have hi0 : (0 : Int) ≤ i := by omega
      obtain ⟨⟨xn, xd, xa, xp⟩, hx⟩ : ∃ x, l[i]? = some x := ⟨_, List.getElem?_eq_getElem (by rw [HN.out.1]; exact hlt)⟩
      have hne : ¬ l = [] := by rintro rfl; simp at hx
      obtain ⟨b, o, rfl, hc⟩ := (HL.out _ (Keeps.refl _ _)).resolve_left hne
      have HC := Lib.hid (hc i _ hx)
      have HX := Lib.hid hx
      obtain ⟨wz, rfl⟩ : ∃ wz, wz = wr := ⟨_, rfl⟩
      clear hc hx hne
      go_wp2_with fail
      go_loopw [5] (fun kv wr => ∃ kk : Nat, kv = .int .i64 kk ∧ kk ≤ n1 ∧ Hid (Keeps [] wz wr ∧ ∀ y ∈ ls.take kk, ltOf cfR y ⟨xn, xd, xa, xp⟩ = true)) (fun kv _ => n1 - (intOf kv).toNat)
      case atStart => exact ⟨0, rfl, by omega, Lib.hid ⟨Keeps.refl _ _, by simp⟩⟩
      case round =>
        obtain ⟨kk, rfl, hkk, HK⟩ := hrel
        have KW := Lib.hid (HI.out.2.2.2.trans HK.out.1)
        by_cases hkl : kk < n1
        · have hkl' : (kk : Int) < n1 := by omega
          have hk0 : (0 : Int) ≤ kk := by omega
          obtain ⟨⟨yn, yd, ya, yp⟩, hy⟩ : ∃ y, ls[kk]? = some y := ⟨_, List.getElem?_eq_getElem (by rw [HN1.out]; exact hkl)⟩
          have hne : ¬ ls = [] := by rintro rfl; simp at hy
          obtain ⟨b', o', rfl, hc'⟩ := HRA.out.resolve_left hne
          have HY := Lib.hid hy
          have SR := Lib.hid (show wr.drew.cell? ⟨b', o' + kk * 4, none⟩ = some (.string yn) ∧ wr.drew.cell? ⟨b, o + i * 4, none⟩ = some (.string xn) from
            ⟨cell_keeps HK.out.1.drew' (hc' kk _ hy).1 (by simp), cell_keeps KW.out.drew' HC.out.1 (by simp)⟩)
          obtain ⟨q, hq⟩ : ∃ q, Op.bytesLess yn.toList xn.toList = q := ⟨_, rfl⟩
          have HQ := Lib.hid (show ltOf cfR ⟨yn, yd, ya, yp⟩ ⟨xn, xd, xa, xp⟩ = q by rw [← hq, Lib.toList_data, Lib.toList_data, bless_eq]; rfl)
          clear hc' hy hne
          go_wp2_with fail
          refine wp_region_held_drew (S := fun W => W.cell? ⟨b', o' + kk * 4, none⟩ = some (.string yn) ∧ W.cell? ⟨b, o + i * 4, none⟩ = some (.string xn)) (by kernel_rfl) ?hSa (fun hHeld => ?_)
          case hSa => exact SR.out
          refine wpAnyH_take (i := 0) (oi := _) (v := ?va0) rfl (by kernel_rfl) (by kernel_rfl) (by kernel_rfl) (fun _ _ _ h => h) (Or.inl ⟨by rfl, ?hya0⟩) (by assumption) ?resta0
          case hya0 => (intro w hSw; (try dsimp only at hSw); go_simp; try (with_reducible rfl))
          try simp only [List.getElem_toArray, List.getElem_cons_zero, List.getElem_cons_succ, Act.put, List.setIfInBounds_toArray, List.set_cons_zero, List.set_cons_succ]
          refine wpAnyH_take (i := 1) (oi := _) (v := ?va1) rfl (by kernel_rfl) (by kernel_rfl) (by kernel_rfl) (fun _ _ _ h => h) (Or.inl ⟨by rfl, ?hya1⟩) (by assumption) ?resta1
          case hya1 => (intro w hSw; (try dsimp only at hSw); go_simp; try (with_reducible rfl))
          try simp only [List.getElem_toArray, List.getElem_cons_zero, List.getElem_cons_succ, Act.put, List.setIfInBounds_toArray, List.set_cons_zero, List.set_cons_succ]
          refine wpAnyH_take (i := 2) (oi := _) (v := ?va2) rfl (by kernel_rfl) (by kernel_rfl) (by kernel_rfl) (fun _ _ _ h => h) (Or.inl ⟨by rfl, ?hya2⟩) (by assumption) ?resta2
          case hya2 => (intro w hSw; (try dsimp only at hSw); go_simp; try (with_reducible rfl))
          try simp only [List.getElem_toArray, List.getElem_cons_zero, List.getElem_cons_succ, Act.put, List.setIfInBounds_toArray, List.set_cons_zero, List.set_cons_succ]
          refine wpAnyH_take (i := 3) (oi := _) (v := .bool true) rfl (by kernel_rfl) (by kernel_rfl) (by kernel_rfl) (fun _ _ _ h => h) (Or.inl ⟨by rfl, ?hya3⟩) (by assumption) ?resta3
          case hya3 => (intro w hSw; (try dsimp only at hSw); go_simp; try (with_reducible rfl))
          try simp only [List.getElem_toArray, List.getElem_cons_zero, List.getElem_cons_succ, Act.put, List.setIfInBounds_toArray, List.set_cons_zero, List.set_cons_succ]
          refine wpAnyH_take (i := 4) (oi := _) (v := ?va4) rfl (by kernel_rfl) (by kernel_rfl) (by kernel_rfl) (fun _ _ _ h => h) (Or.inl ⟨by rfl, ?hya4⟩) (by assumption) ?resta4
          case hya4 => (intro w hSw; (try dsimp only at hSw); go_simp; try (with_reducible rfl))
          try simp only [List.getElem_toArray, List.getElem_cons_zero, List.getElem_cons_succ, Act.put, List.setIfInBounds_toArray, List.set_cons_zero, List.set_cons_succ]
          refine wpAnyH_take (i := 5) (oi := _) (v := ?va5) rfl (by kernel_rfl) (by kernel_rfl) (by kernel_rfl) (fun _ _ _ h => h) (Or.inl ⟨by rfl, ?hya5⟩) (by assumption) ?resta5
          case hya5 => (intro w hSw; (try dsimp only at hSw); go_simp; try (with_reducible rfl))
          try simp only [List.getElem_toArray, List.getElem_cons_zero, List.getElem_cons_succ, Act.put, List.setIfInBounds_toArray, List.set_cons_zero, List.set_cons_succ]
          refine wpAnyH_take (i := 6) (oi := _) (v := ?va6) rfl (by kernel_rfl) (by kernel_rfl) (by kernel_rfl) (fun _ _ _ h => h) (Or.inl ⟨by rfl, ?hya6⟩) (by assumption) ?resta6
          case hya6 => (intro w hSw; (try dsimp only at hSw); go_simp; try (with_reducible rfl))
          try simp only [List.getElem_toArray, List.getElem_cons_zero, List.getElem_cons_succ, Act.put, List.setIfInBounds_toArray, List.set_cons_zero, List.set_cons_succ]
          refine wpAnyH_take (i := 7) (oi := _) (v := ?va7) rfl (by kernel_rfl) (by kernel_rfl) (by kernel_rfl) (fun _ _ _ h => h) (Or.inl ⟨by rfl, ?hya7⟩) (by assumption) ?resta7
          case hya7 => (intro w hSw; (try dsimp only at hSw); go_simp; try (with_reducible rfl))
          try simp only [List.getElem_toArray, List.getElem_cons_zero, List.getElem_cons_succ, Act.put, List.setIfInBounds_toArray, List.set_cons_zero, List.set_cons_succ]
          refine wpAnyH_take (i := 8) (oi := _) (v := ?va8) rfl (by kernel_rfl) (by kernel_rfl) (by kernel_rfl) (fun _ _ _ h => h) (Or.inl ⟨by rfl, ?hya8⟩) (by assumption) ?resta8
          case hya8 => (intro w hSw; (try dsimp only at hSw); go_simp; try (with_reducible rfl))
          try simp only [List.getElem_toArray, List.getElem_cons_zero, List.getElem_cons_succ, Act.put, List.setIfInBounds_toArray, List.set_cons_zero, List.set_cons_succ]
          refine wpAnyH_take (i := 9) (oi := _) (v := ?va9) rfl (by kernel_rfl) (by kernel_rfl) (by kernel_rfl) (fun _ _ _ h => h) (Or.inl ⟨by rfl, ?hya9⟩) (by assumption) ?resta9
          case hya9 => (intro w hSw; (try dsimp only at hSw); go_simp; try (with_reducible rfl))
          try simp only [List.getElem_toArray, List.getElem_cons_zero, List.getElem_cons_succ, Act.put, List.setIfInBounds_toArray, List.set_cons_zero, List.set_cons_succ]
          refine wpAnyH_take (i := 10) (oi := _) (v := ?va10) rfl (by kernel_rfl) (by kernel_rfl) (by kernel_rfl) (fun _ _ _ h => h) (Or.inl ⟨by rfl, ?hya10⟩) (by assumption) ?resta10
          case hya10 => (intro w hSw; (try dsimp only at hSw); go_simp; try (with_reducible rfl))
          try simp only [List.getElem_toArray, List.getElem_cons_zero, List.getElem_cons_succ, Act.put, List.setIfInBounds_toArray, List.set_cons_zero, List.set_cons_succ]
          refine wpAnyH_take (i := 11) (oi := _) (v := ?va11) rfl (by kernel_rfl) (by kernel_rfl) (by kernel_rfl) (fun _ _ _ h => h) (Or.inl ⟨by rfl, ?hya11⟩) (by assumption) ?resta11
          case hya11 => (intro w hSw; (try dsimp only at hSw); go_simp; try (with_reducible rfl))
          try simp only [List.getElem_toArray, List.getElem_cons_zero, List.getElem_cons_succ, Act.put, List.setIfInBounds_toArray, List.set_cons_zero, List.set_cons_succ]
          refine wpAnyH_take (i := 12) (oi := _) (v := ?va12) rfl (by kernel_rfl) (by kernel_rfl) (by kernel_rfl) (fun _ _ _ h => h) (Or.inl ⟨by rfl, ?hya12⟩) (by assumption) ?resta12
          case hya12 => (intro w hSw; (try dsimp only at hSw); go_simp; try (with_reducible rfl))
          try simp only [List.getElem_toArray, List.getElem_cons_zero, List.getElem_cons_succ, Act.put, List.setIfInBounds_toArray, List.set_cons_zero, List.set_cons_succ]
          refine wpAnyH_take (i := 13) (oi := _) (v := ?va13) rfl (by kernel_rfl) (by kernel_rfl) (by kernel_rfl) (fun _ _ _ h => h) (Or.inl ⟨by rfl, ?hya13⟩) (by assumption) ?resta13
          case hya13 => (intro w hSw; (try dsimp only at hSw); go_simp; try (with_reducible rfl))
          try simp only [List.getElem_toArray, List.getElem_cons_zero, List.getElem_cons_succ, Act.put, List.setIfInBounds_toArray, List.set_cons_zero, List.set_cons_succ]
          refine wpAnyH_take (i := 14) (oi := _) (v := ?va14) rfl (by kernel_rfl) (by kernel_rfl) (by kernel_rfl) (fun _ _ _ h => h) (Or.inl ⟨by rfl, ?hya14⟩) (by assumption) ?resta14
          case hya14 => (intro w hSw; (try dsimp only at hSw); go_simp; try (with_reducible rfl))
          try simp only [List.getElem_toArray, List.getElem_cons_zero, List.getElem_cons_succ, Act.put, List.setIfInBounds_toArray, List.set_cons_zero, List.set_cons_succ]
          refine wpAnyH_take (i := 15) (oi := _) (v := ?va15) rfl (by kernel_rfl) (by kernel_rfl) (by kernel_rfl) (fun _ _ _ h => h) (Or.inl ⟨by rfl, ?hya15⟩) (by assumption) ?resta15
          case hya15 => (intro w hSw; (try dsimp only at hSw); go_simp; try (with_reducible rfl))
          try simp only [List.getElem_toArray, List.getElem_cons_zero, List.getElem_cons_succ, Act.put, List.setIfInBounds_toArray, List.set_cons_zero, List.set_cons_succ]
          refine wpAnyH_take (i := 16) (oi := _) (v := ?va16) rfl (by kernel_rfl) (by kernel_rfl) (by kernel_rfl) (fun _ _ _ h => h) (Or.inl ⟨by rfl, ?hya16⟩) (by assumption) ?resta16
          case hya16 => (intro w hSw; (try dsimp only at hSw); go_simp; try (with_reducible rfl))
          try simp only [List.getElem_toArray, List.getElem_cons_zero, List.getElem_cons_succ, Act.put, List.setIfInBounds_toArray, List.set_cons_zero, List.set_cons_succ]
          refine wpAnyH_done (by kernel_rfl) ?_ _
          clear hHeld
          have HKD := Lib.hid HK.out.1.drew'
          cases q with
          | true =>
            have HNXT := Lib.hid (show ∀ z ∈ ls.take (kk + 1), ltOf cfR z ⟨xn, xd, xa, xp⟩ = true from fun z hz => by
              rw [List.take_add_one, HY.out] at hz
              rcases List.mem_append.1 hz with hz | hz
              · exact HK.out.2 z hz
              · simp at hz; subst hz; exact HQ.out)
            clear hq
            go_wp2_with fail
            exact ⟨⟨kk + 1, by simp, by omega, Lib.hid ⟨HKD.out, HNXT.out⟩⟩, by simp [intOf]; omega⟩
          | false =>
            have HEAD := Lib.hid (show ∀ z ∈ (ls.drop kk).head?, ltOf cfR z ⟨xn, xd, xa, xp⟩ = false from fun z hz => by
              rw [List.head?_drop, HY.out] at hz
              simp at hz
              rw [← hz]
              exact HQ.out)
            clear hq
            have hck : ¬ c1 = kk := by omega
            have HRX := Lib.hid (fun (W : World) (kz : Keeps [] wz W) => (HRA.out.keep0 kz).drop kk)
            have HTL := Lib.hid (show (ls.take kk).length = kk by rw [List.length_take, HN1.out]; omega)
            have HDL := Lib.hid (show (ls.drop kk).length = n1 - kk by rw [List.length_drop, HN1.out])
            have HR9 := Lib.hid ((HRA.out.keep0 HKD.out).take kk)
            have hkc : (kk : Int) ≤ c1 := by omega
            have hkn : (kk : Int) ≤ n1 := by omega
            have hnc : (n1 : Int) ≤ c1 := by omega
            have HIX := Lib.hid (And.intro hi (And.intro hlt (And.intro hn1n hn256)))
            go_wp2_with (first
              | (at_builtin; refine wpList_append_R (w0 := wz) rfl (.tmp 32) (.tmp 35) 26 rfl Tryd.underlying26 (.slice none 0 0) [] rfl (OwnR.nil _ _) (some ⟨b', o', none⟩) kk c1 (ls.take kk) rfl HTL.out HR9.out (by simp; omega) HKD.out ?_; intro v1 w1 own1 _ kw1; have O1 := Lib.hid own1; have KK1 := Lib.hid kw1; have g0 := cell_keeps (HI.out.2.2.2.trans kw1) HC.out.1 (by simp); have g1 := cell_keeps (HI.out.2.2.2.trans kw1) HC.out.2.1 (by simp); have g2 := cell_keeps (HI.out.2.2.2.trans kw1) HC.out.2.2.1 (by simp); have g3 := cell_keeps (HI.out.2.2.2.trans kw1) HC.out.2.2.2 (by simp); clear own1 kw1)
              | (at_builtin; refine wpList_append_R (w0 := wz) rfl (.tmp 37) (.tmp 42) 26 rfl Tryd.underlying26 v1 (ls.take kk) rfl (O1.out.alloc (.cells #[.string xn, .bool xd, .int .u32 xa, .int .u16 xp] 35)) (some ⟨w1.heap.size, 0, none⟩) 1 1 [⟨xn, xd, xa, xp⟩] rfl rfl (rules_one (MapKept.heap_alloc w1 (.cells #[.string xn, .bool xd, .int .u32 xa, .int .u16 xp] 35)).1) (by rw [HTL.out]; omega) (KK1.out.alloc' _) ?_; intro v2 w2 own2 _ kw2; have O2 := Lib.hid own2; have KK2 := Lib.hid kw2; clear own2 kw2)
              | (at_builtin; refine wpList_append_R (w0 := wz) rfl (.tmp 44) (.tmp 47) 26 rfl Tryd.underlying26 v2 (ls.take kk ++ [⟨xn, xd, xa, xp⟩]) rfl O2.out (some ⟨b', o' + kk * 4, none⟩) (n1 - kk) (c1 - kk) (ls.drop kk) rfl HDL.out (HRX.out _ KK2.out) (by rw [List.length_append, HTL.out]; simp; omega) KK2.out ?_; intro v3 w3 own3 _ kw3; have O3 := Lib.hid own3; have KK3 := Lib.hid kw3; clear own3 kw3))
            exact ⟨⟨i + 1, ls.take kk ++ ⟨xn, xd, xa, xp⟩ :: ls.drop kk, by simp, by omega, Lib.hid ⟨by have h := O3.out.base HI.out.2.2.2.size; rw [List.append_assoc] at h; exact h, by rw [List.take_add_one, HX.out]; exact perm_in kk _ HI.out.2.1, rising_in HI.out.2.2.1 HK.out.2 HEAD.out, HI.out.2.2.2.trans KK3.out⟩⟩, by simp [intOf]; omega⟩
        · obtain rfl : kk = n1 := by omega
          have hkl' : ¬ (kk : Int) < (kk : Int) := by omega
          go_wp2_with fail
          refine wp_region_held_drew (S := fun W => Keeps [] wr W) (by kernel_rfl) ?hSb (fun hHeld => ?_)
          case hSb => exact (Keeps.refl [] _).drew'
          refine wpAnyH_take (i := 0) (oi := _) (v := ?vb0) rfl (by kernel_rfl) (by kernel_rfl) (by kernel_rfl) (fun _ _ _ h => h) (Or.inl ⟨by rfl, ?hyb0⟩) (by assumption) ?restb0
          case hyb0 => (intro w hSw; (try dsimp only at hSw); go_simp; try (with_reducible rfl))
          try simp only [List.getElem_toArray, List.getElem_cons_zero, List.getElem_cons_succ, Act.put, List.setIfInBounds_toArray, List.set_cons_zero, List.set_cons_succ]
          refine wpAnyH_take (i := 1) (oi := _) (v := ?vb1) rfl (by kernel_rfl) (by kernel_rfl) (by kernel_rfl) (fun _ _ _ h => h) (Or.inl ⟨by rfl, ?hyb1⟩) (by assumption) ?restb1
          case hyb1 => (intro w hSw; (try dsimp only at hSw); go_simp; try (with_reducible rfl))
          try simp only [List.getElem_toArray, List.getElem_cons_zero, List.getElem_cons_succ, Act.put, List.setIfInBounds_toArray, List.set_cons_zero, List.set_cons_succ]
          refine wpAnyH_take (i := 2) (oi := _) (v := ?vb2) rfl (by kernel_rfl) (by kernel_rfl) (by kernel_rfl) (fun _ _ _ h => h) (Or.inl ⟨by rfl, ?hyb2⟩) (by assumption) ?restb2
          case hyb2 => (intro w hSw; (try dsimp only at hSw); go_simp; try (with_reducible rfl))
          try simp only [List.getElem_toArray, List.getElem_cons_zero, List.getElem_cons_succ, Act.put, List.setIfInBounds_toArray, List.set_cons_zero, List.set_cons_succ]
          refine wpAnyH_take (i := 3) (oi := _) (v := .bool false) rfl (by kernel_rfl) (by kernel_rfl) (by kernel_rfl) (fun _ _ _ h => h) (Or.inl ⟨by rfl, ?hyb3⟩) (by assumption) ?restb3
          case hyb3 => (intro w hSw; (try dsimp only at hSw); go_simp; try (with_reducible rfl))
          try simp only [List.getElem_toArray, List.getElem_cons_zero, List.getElem_cons_succ, Act.put, List.setIfInBounds_toArray, List.set_cons_zero, List.set_cons_succ]
          refine wpAnyH_take (i := 4) (oi := _) (v := ?vb4) rfl (by kernel_rfl) (by kernel_rfl) (by kernel_rfl) (fun _ _ _ h => h) (Or.inl ⟨by rfl, ?hyb4⟩) (by assumption) ?restb4
          case hyb4 => (intro w hSw; (try dsimp only at hSw); go_simp; try (with_reducible rfl))
          try simp only [List.getElem_toArray, List.getElem_cons_zero, List.getElem_cons_succ, Act.put, List.setIfInBounds_toArray, List.set_cons_zero, List.set_cons_succ]
          refine wpAnyH_take (i := 5) (oi := _) (v := undef) rfl (by kernel_rfl) (by kernel_rfl) (by kernel_rfl) (fun _ _ _ h => h) (Or.inr ⟨by rfl, rfl⟩) (by assumption) ?_
          try simp only [List.getElem_toArray, List.getElem_cons_zero, List.getElem_cons_succ, Act.put, List.setIfInBounds_toArray, List.set_cons_zero, List.set_cons_succ]
          refine wpAnyH_take (i := 6) (oi := _) (v := undef) rfl (by kernel_rfl) (by kernel_rfl) (by kernel_rfl) (fun _ _ _ h => h) (Or.inr ⟨by rfl, rfl⟩) (by assumption) ?_
          try simp only [List.getElem_toArray, List.getElem_cons_zero, List.getElem_cons_succ, Act.put, List.setIfInBounds_toArray, List.set_cons_zero, List.set_cons_succ]
          refine wpAnyH_take (i := 7) (oi := _) (v := undef) rfl (by kernel_rfl) (by kernel_rfl) (by kernel_rfl) (fun _ _ _ h => h) (Or.inr ⟨by rfl, rfl⟩) (by assumption) ?_
          try simp only [List.getElem_toArray, List.getElem_cons_zero, List.getElem_cons_succ, Act.put, List.setIfInBounds_toArray, List.set_cons_zero, List.set_cons_succ]
          refine wpAnyH_take (i := 8) (oi := _) (v := undef) rfl (by kernel_rfl) (by kernel_rfl) (by kernel_rfl) (fun _ _ _ h => h) (Or.inr ⟨by rfl, rfl⟩) (by assumption) ?_
          try simp only [List.getElem_toArray, List.getElem_cons_zero, List.getElem_cons_succ, Act.put, List.setIfInBounds_toArray, List.set_cons_zero, List.set_cons_succ]
          refine wpAnyH_take (i := 9) (oi := _) (v := undef) rfl (by kernel_rfl) (by kernel_rfl) (by kernel_rfl) (fun _ _ _ h => h) (Or.inr ⟨by rfl, rfl⟩) (by assumption) ?_
          try simp only [List.getElem_toArray, List.getElem_cons_zero, List.getElem_cons_succ, Act.put, List.setIfInBounds_toArray, List.set_cons_zero, List.set_cons_succ]
          refine wpAnyH_take (i := 10) (oi := _) (v := undef) rfl (by kernel_rfl) (by kernel_rfl) (by kernel_rfl) (fun _ _ _ h => h) (Or.inr ⟨by rfl, rfl⟩) (by assumption) ?_
          try simp only [List.getElem_toArray, List.getElem_cons_zero, List.getElem_cons_succ, Act.put, List.setIfInBounds_toArray, List.set_cons_zero, List.set_cons_succ]
          refine wpAnyH_take (i := 11) (oi := _) (v := undef) rfl (by kernel_rfl) (by kernel_rfl) (by kernel_rfl) (fun _ _ _ h => h) (Or.inr ⟨by rfl, rfl⟩) (by assumption) ?_
          try simp only [List.getElem_toArray, List.getElem_cons_zero, List.getElem_cons_succ, Act.put, List.setIfInBounds_toArray, List.set_cons_zero, List.set_cons_succ]
          refine wpAnyH_take (i := 12) (oi := _) (v := undef) rfl (by kernel_rfl) (by kernel_rfl) (by kernel_rfl) (fun _ _ _ h => h) (Or.inr ⟨by rfl, rfl⟩) (by assumption) ?_
          try simp only [List.getElem_toArray, List.getElem_cons_zero, List.getElem_cons_succ, Act.put, List.setIfInBounds_toArray, List.set_cons_zero, List.set_cons_succ]
          refine wpAnyH_take (i := 13) (oi := _) (v := undef) rfl (by kernel_rfl) (by kernel_rfl) (by kernel_rfl) (fun _ _ _ h => h) (Or.inr ⟨by rfl, rfl⟩) (by assumption) ?_
          try simp only [List.getElem_toArray, List.getElem_cons_zero, List.getElem_cons_succ, Act.put, List.setIfInBounds_toArray, List.set_cons_zero, List.set_cons_succ]
          refine wpAnyH_take (i := 14) (oi := _) (v := undef) rfl (by kernel_rfl) (by kernel_rfl) (by kernel_rfl) (fun _ _ _ h => h) (Or.inr ⟨by rfl, rfl⟩) (by assumption) ?_
          try simp only [List.getElem_toArray, List.getElem_cons_zero, List.getElem_cons_succ, Act.put, List.setIfInBounds_toArray, List.set_cons_zero, List.set_cons_succ]
          refine wpAnyH_take (i := 15) (oi := _) (v := undef) rfl (by kernel_rfl) (by kernel_rfl) (by kernel_rfl) (fun _ _ _ h => h) (Or.inr ⟨by rfl, rfl⟩) (by assumption) ?_
          try simp only [List.getElem_toArray, List.getElem_cons_zero, List.getElem_cons_succ, Act.put, List.setIfInBounds_toArray, List.set_cons_zero, List.set_cons_succ]
          refine wpAnyH_take (i := 16) (oi := _) (v := ?vb16) rfl (by kernel_rfl) (by kernel_rfl) (by kernel_rfl) (fun _ _ _ h => h) (Or.inl ⟨by rfl, ?hyb16⟩) (by assumption) ?restb16
          case hyb16 => (intro w hSw; (try dsimp only at hSw); go_simp; try (with_reducible rfl))
          try simp only [List.getElem_toArray, List.getElem_cons_zero, List.getElem_cons_succ, Act.put, List.setIfInBounds_toArray, List.set_cons_zero, List.set_cons_succ]
          refine wpAnyH_done (by kernel_rfl) ?_ _
          clear hHeld
          have HKD := Lib.hid HK.out.1.drew'
          have HEAD := Lib.hid (show ∀ z ∈ (ls.drop kk).head?, ltOf cfR z ⟨xn, xd, xa, xp⟩ = false from fun z hz => by
            rw [List.drop_of_length_le (by rw [HN1.out]; exact Nat.le_refl _)] at hz
            simp at hz)
          obtain ⟨X2, hX2⟩ : ∃ X2, (if c1 = kk then A1 else Option.map (fun x : Addr => x.add (kk * 4)) A1) = X2 := ⟨_, rfl⟩
          have HRX := Lib.hid (fun (W : World) (kz : Keeps [] wz W) => show RulesAt W X2 (ls.drop kk) from .inl (List.drop_of_length_le (by rw [HN1.out]; exact Nat.le_refl _)))
          have HTL := Lib.hid (show (ls.take kk).length = kk by rw [List.length_take, HN1.out]; omega)
          have HDL := Lib.hid (show (ls.drop kk).length = 0 by rw [List.length_drop, HN1.out]; omega)
          have HR9 := Lib.hid ((HRA.out.keep0 HKD.out).take kk)
          have hkc : (kk : Int) ≤ c1 := by omega
          have hkn : (kk : Int) ≤ kk := by omega
          have hnc : (kk : Int) ≤ c1 := by omega
          have HIX := Lib.hid (And.intro hi (And.intro hlt (And.intro hn1n hn256)))
          go_wp2_with (first
            | (at_builtin; refine wpList_append_R (w0 := wz) rfl (.tmp 32) (.tmp 35) 26 rfl Tryd.underlying26 (.slice none 0 0) [] rfl (OwnR.nil _ _) A1 kk c1 (ls.take kk) rfl HTL.out HR9.out (by simp; omega) HKD.out ?_; intro v1 w1 own1 _ kw1; have O1 := Lib.hid own1; have KK1 := Lib.hid kw1; have g0 := cell_keeps (HI.out.2.2.2.trans kw1) HC.out.1 (by simp); have g1 := cell_keeps (HI.out.2.2.2.trans kw1) HC.out.2.1 (by simp); have g2 := cell_keeps (HI.out.2.2.2.trans kw1) HC.out.2.2.1 (by simp); have g3 := cell_keeps (HI.out.2.2.2.trans kw1) HC.out.2.2.2 (by simp); clear own1 kw1)
            | (at_builtin; refine wpList_append_R (w0 := wz) rfl (.tmp 37) (.tmp 42) 26 rfl Tryd.underlying26 v1 (ls.take kk) rfl (O1.out.alloc (.cells #[.string xn, .bool xd, .int .u32 xa, .int .u16 xp] 35)) (some ⟨w1.heap.size, 0, none⟩) 1 1 [⟨xn, xd, xa, xp⟩] rfl rfl (rules_one (MapKept.heap_alloc w1 (.cells #[.string xn, .bool xd, .int .u32 xa, .int .u16 xp] 35)).1) (by rw [HTL.out]; omega) (KK1.out.alloc' _) ?_; intro v2 w2 own2 _ kw2; have O2 := Lib.hid own2; have KK2 := Lib.hid kw2; clear own2 kw2)
            | (at_builtin; refine wpList_append_R (w0 := wz) rfl (.tmp 44) (.tmp 47) 26 rfl Tryd.underlying26 v2 (ls.take kk ++ [⟨xn, xd, xa, xp⟩]) rfl O2.out X2 0 (c1 - kk) (ls.drop kk) rfl HDL.out (HRX.out _ KK2.out) (by rw [List.length_append, HTL.out]; simp; omega) KK2.out ?_; intro v3 w3 own3 _ kw3; have O3 := Lib.hid own3; have KK3 := Lib.hid kw3; clear own3 kw3))
          exact ⟨⟨i + 1, ls.take kk ++ ⟨xn, xd, xa, xp⟩ :: ls.drop kk, by simp, by omega, Lib.hid ⟨by have h := O3.out.base HI.out.2.2.2.size; rw [List.append_assoc] at h; exact h, by rw [List.take_add_one, HX.out]; exact perm_in kk _ HI.out.2.1, rising_in HI.out.2.2.1 HK.out.2 HEAD.out, HI.out.2.2.2.trans KK3.out⟩⟩, by simp [intOf]; omega⟩
    · obtain rfl : i = n := by omega
      have hlt' : ¬ (i : Int) < (i : Int) := by omega
      have htk : l.take i = l := List.take_of_length_le (by rw [HN.out.1]; exact Nat.le_refl _)
      have hp := HI.out.2.1
      rw [htk] at hp
      have HP := Lib.hid hp
      clear htk hp
      go_wp2_with fail
      go_ret
      exact ⟨_, rfl, ls, HP.out, HI.out.2.2.1, (by have h := HI.out.1; rw [HN1.out] at h; exact h), HI.out.2.2.2⟩
end Go.Proofs.YtbmkdnkiojapbaaDoor
