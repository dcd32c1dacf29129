/-
  The walk of tls.parts: the handshake's bytes. Condition: at most 90,000 bytes.
-/
import Derived.Test.YtpoheemjdieogaaGreatDoorFoldQ
import Derived.Test.YtpoheemjdieogaaGreatDoorTlsL
import Derived.Deep.RegionLaw
import Derived.TacticsInMore
import Derived.Scope
namespace Go.Proofs.YtpoheemjdieogaaGreatDoor
open Go.RowKit Go.Lib
set_option linter.unusedVariables false
set_option linter.unusedSimpArgs false

theorem sum5 {p hi : Nat} (h : hi - 5 = p) (h5 : 5 ≤ hi) (hh : hi ≤ 100000) : IntKind.i64.wrap (5 + (p : Int)) = (hi : Int) ∧ wrap64 (5 + (p : Int)) = (hi : Int) := by
  have e : (5 + (p : Int)) = (hi : Int) := by omega
  rw [e]
  refine ⟨wrap_in (by omega) (by omega), ?_⟩
  unfold wrap64
  omega
theorem noGoto_ret {Q : Exit → Act → World → Prop} {a : Act} {w : World} (h : Q .ret a w) : Exit.noGoto Q .ret a w := h
set_option maxRecDepth 100000 in
set_option maxHeartbeats 8000000 in
theorem parts_any (w : World) (A : Option Addr) (n c : Nat) (b : List UInt8) (hb : BytesV w (.slice A n c) b) (hn : n ≤ 90000) :
    Calls Tryz.prog 81 #[.slice A n c] w fun en w' => ∃ v, en = .returned (.tuple #[v, .bool (partsL b).2]) ∧ w'.ownsRow w.heap.size 5 1 v (partsL b).1.length ((partsL b).1.map u8V) ∧ Keeps [] w w' ∧ (partsL b).1.length ≤ n := by
  obtain ⟨res, hres⟩ : ∃ res, partsL b = res := ⟨_, rfl⟩
  rw [hres]
  have hbl := hb.form.1
  have HB := Lib.hid hb
  have HR := Lib.hid (show partsG n [] b = res by rw [← hres, hbl]; rfl)
  clear hb hres hbl
  go_enter Tryz.func81, Tryz.ntmps81
  go_wp2_with fail
  refine wp_scope_straight ?_
  go_wp2_with fail
  refine wp_label ?_
  go_wp2_with fail
  go_loopw [0, 4] (fun bv ov wr => ∃ A' n' c' rest outl, bv = .slice A' n' c' ∧ Hid (BytesV w (.slice A' n' c') rest) ∧ Hid (wr.ownsRow w.heap.size 5 1 ov outl.length (outl.map u8V)) ∧ Hid (Keeps [] w wr) ∧ Hid (partsG n' outl rest = res) ∧ outl.length + n' ≤ n) (fun bv _ _ => match bv with | .slice _ n _ => n | _ => 0)
  case atStart => exact ⟨A, n, c, b, [], rfl, HB, Lib.hid (World.ownsRow_nil _ _ _ _), Lib.hid (Keeps.refl _ _), HR, by simp⟩
  case round =>
    obtain ⟨A', n', c', rest, outl, rfl, HBI, HO, HK, HG, hsz⟩ := hrel
    have hbn := HBI.out.form
    rcases rest with _ | ⟨x0, t⟩
    · have h0 : n' = 0 := by have := hbn.1; simpa using this
      subst h0
      have HG2 := Lib.hid (show (outl, false) = res from HG.out)
      have HSZ := Lib.hid hsz
      clear hbn hsz HG HR
      go_wp2_with fail
      refine noGoto_ret (bodyPost_ret (v := .tuple #[u4, .bool false]) (by simp [results, Tryz.results81, go_sem]) rfl ?_)
      rw [← HG2.out]
      exact ⟨u4, rfl, HO.out, HK.out, HSZ.out⟩
    · obtain ⟨N, hN⟩ : ∃ N, n' = N := ⟨_, rfl⟩
      have hln : t.length + 1 = n' := by have := hbn.1; simpa using this.symm
      obtain ⟨g, o, rfl, hcc⟩ := HBI.out.get (by omega)
      have hc0 : wr.cell? ⟨g, o, none⟩ = some (.int .u8 (x0.toNat : Int)) := cell_keeps HK.out (hcc 0 x0 rfl) (by simp)
      have hc1 : ∀ x1, t[0]? = some x1 → wr.cell? ⟨g, o + 1, none⟩ = some (.int .u8 (x1.toNat : Int)) := fun x1 h => cell_keeps HK.out (hcc 1 x1 (by simpa using h)) (by simp)
      have hc3 : ∀ x1, t[2]? = some x1 → wr.cell? ⟨g, o + 3, none⟩ = some (.int .u8 (x1.toNat : Int)) := fun x1 h => cell_keeps HK.out (hcc 3 x1 (by simpa using h)) (by simp)
      have hc4 : ∀ x1, t[3]? = some x1 → wr.cell? ⟨g, o + 4, none⟩ = some (.int .u8 (x1.toNat : Int)) := fun x1 h => cell_keeps HK.out (hcc 4 x1 (by simpa using h)) (by simp)
      have HC1 := Lib.hid hc1
      have HC3 := Lib.hid hc3
      have HC4 := Lib.hid hc4
      have HSZ := Lib.hid hsz
      have HBN := Lib.hid hbn
      have HLN := Lib.hid hln
      have hN0 : (0 : Int) < (n' : Int) := by omega
      have hstep : partsG n' outl (x0 :: t) = if x0 ≠ 22 then (outl, true) else if (x0 :: t).length < 5 then (outl, false) else if (x0 :: t)[1]? ≠ some 3 ∨ beN (((x0 :: t).drop 3).take 2) < 1 ∨ 16384 < beN (((x0 :: t).drop 3).take 2) then (outl, true) else partsG t.length (outl ++ ((x0 :: t).drop 5).take (beN (((x0 :: t).drop 3).take 2))) (((x0 :: t).drop 5).drop (beN (((x0 :: t).drop 3).take 2))) := by rw [← hln]; rfl
      have hg := HG.out
      rw [hstep] at hg
      clear hstep hc1 hc3 hc4 hsz hbn hln HG HR hN hcc
      by_cases hx0 : x0 ≠ 22
      · rw [if_pos hx0] at hg
        have HG2 := Lib.hid hg
        have hxx : ((x0.toNat : Int) != 22) = true := by
          have : x0.toNat ≠ 22 := fun h => hx0 (UInt8.toNat_inj.1 h)
          simp; omega
        clear hg
        go_wp2_with fail
        refine noGoto_ret (bodyPost_ret (v := .tuple #[u4, .bool true]) (by simp [results, Tryz.results81, go_sem]) rfl ?_)
        rw [← HG2.out]
        exact ⟨u4, rfl, HO.out, HK.out, by have := HSZ.out; show outl.length ≤ n; omega⟩
      · rw [if_neg hx0] at hg
        have hx1 : x0 = 22 := by simpa using hx0
        subst hx1
        by_cases h5 : (22 :: t : List UInt8).length < 5
        · rw [if_pos h5] at hg
          have HG2 := Lib.hid hg
          have h5' : (n' : Int) < 5 := by have := HLN.out; simp at h5; omega
          clear hg h5
          go_wp2_with fail
          refine noGoto_ret (bodyPost_ret (v := .tuple #[u4, .bool false]) (by simp [results, Tryz.results81, go_sem]) rfl ?_)
          rw [← HG2.out]
          exact ⟨u4, rfl, HO.out, HK.out, by have := HSZ.out; show outl.length ≤ n; omega⟩
        · rw [if_neg h5] at hg
          have h5' : ¬ (n' : Int) < 5 := by have := HLN.out; simp at h5; omega
          have h1i : (1 : Int) < (n' : Int) := by omega
          have h3i : (3 : Int) < (n' : Int) := by omega
          have h4i : (4 : Int) < (n' : Int) := by omega
          have ht4 : 4 ≤ t.length := by simp at h5; omega
          obtain ⟨x1, x2, x3, x4, t', rfl⟩ : ∃ x1 x2 x3 x4 t', t = x1 :: x2 :: x3 :: x4 :: t' := by
            rcases t with _ | ⟨x1, _ | ⟨x2, _ | ⟨x3, _ | ⟨x4, t'⟩⟩⟩⟩
            · simp at ht4
            · simp at ht4
            · simp at ht4
            · simp at ht4
            · exact ⟨x1, x2, x3, x4, t', rfl⟩
          have c1 := HC1.out x1 rfl
          have c3 := HC3.out x3 rfl
          have c4 := HC4.out x4 rfl
          have hbe : beN (((22 :: x1 :: x2 :: x3 :: x4 :: t').drop 3).take 2) = x3.toNat * 256 + x4.toNat := by
            show beN [x3, x4] = _
            simp [beN]
          have he1 : (22 :: x1 :: x2 :: x3 :: x4 :: t' : List UInt8)[1]? = some x1 := rfl
          have he5 : (22 :: x1 :: x2 :: x3 :: x4 :: t' : List UInt8).drop 5 = t' := rfl
          rw [hbe, he1, he5] at hg
          obtain ⟨v3, hv3⟩ : ∃ v, x3.toNat = v := ⟨_, rfl⟩
          have hor := or8 x3.toNat x4 (by have := x3.toNat_lt; omega)
          rw [hv3] at hor hg c3
          obtain ⟨nn, hnn⟩ : ∃ nn, v3 * 256 + x4.toNat = nn := ⟨_, rfl⟩
          rw [hnn] at hor hg
          have hnb : nn < 65536 := by have h1 := x3.toNat_lt; have h2 := x4.toNat_lt; omega
          have HX := Lib.hid (And.intro hbe (And.intro hnn hv3))
          have hv3b : v3 < 256 := by have := x3.toNat_lt; omega
          have hx4b := x4.toNat_lt
          clear hbe he1 he5 hx0 ht4 hnn hv3 HC1 HC3 HC4
          have hx4c : x4.toNat < 256 := hx4b
          clear hx4b
          have HS6 := Lib.hid (show wr.drew.cell? ⟨g, o + 3, none⟩ = some (.int .u8 (v3 : Int)) ∧ wr.drew.cell? ⟨g, o + 4, none⟩ = some (.int .u8 (x4.toNat : Int)) from ⟨c3, c4⟩)
          have HOO := Lib.hid (own_keep0 HO.out (Keeps.refl [] wr).drew')
          have HKK := Lib.hid HK.out.drew'
          by_cases hb1 : x1 ≠ 3
          · rw [if_pos (.inl (by simpa using hb1))] at hg
            have HG2 := Lib.hid hg
            have hxx : ((x1.toNat : Int) != 3) = true := by
              have : x1.toNat ≠ 3 := fun h => hb1 (UInt8.toNat_inj.1 h)
              simp; omega
            clear hg
            go_wp2_with fail
            go_region_held3 (fun W => W.cell? ⟨g, o + 3, none⟩ = some (.int .u8 (v3 : Int)) ∧ W.cell? ⟨g, o + 4, none⟩ = some (.int .u8 (x4.toNat : Int))) (exact HS6.out) (fail)
            go_wp2_with fail
            refine noGoto_ret (bodyPost_ret (v := .tuple #[u4, .bool true]) (by simp [results, Tryz.results81, go_sem]) rfl ?_)
            rw [← HG2.out]
            exact ⟨u4, rfl, HOO.out, HKK.out, by have := HSZ.out; show outl.length ≤ n; omega⟩
          · have hx1 : x1 = 3 := by simpa using hb1
            subst hx1
            have hxx : ((UInt8.toNat 3 : Int) != 3) = false := rfl
            by_cases hb2 : nn < 1
            · rw [if_pos (.inr (.inl hb2))] at hg
              have HG2 := Lib.hid hg
              have hb2' : (nn : Int) < 1 := by omega
              clear hg hb2
              go_wp2_with fail
              go_region_held3 (fun W => W.cell? ⟨g, o + 3, none⟩ = some (.int .u8 (v3 : Int)) ∧ W.cell? ⟨g, o + 4, none⟩ = some (.int .u8 (x4.toNat : Int))) (exact HS6.out) (fail)
              go_wp2_with fail
              refine noGoto_ret (bodyPost_ret (v := .tuple #[u4, .bool true]) (by simp [results, Tryz.results81, go_sem]) rfl ?_)
              rw [← HG2.out]
              exact ⟨u4, rfl, HOO.out, HKK.out, by have := HSZ.out; show outl.length ≤ n; omega⟩
            · by_cases hb3 : 16384 < nn
              · rw [if_pos (.inr (.inr hb3))] at hg
                have HG2 := Lib.hid hg
                have hb2' : ¬ (nn : Int) < 1 := by omega
                have hb3' : (16384 : Int) < (nn : Int) := by omega
                clear hg hb2 hb3
                go_wp2_with fail
                go_region_held3 (fun W => W.cell? ⟨g, o + 3, none⟩ = some (.int .u8 (v3 : Int)) ∧ W.cell? ⟨g, o + 4, none⟩ = some (.int .u8 (x4.toNat : Int))) (exact HS6.out) (fail)
                go_wp2_with fail
                refine noGoto_ret (bodyPost_ret (v := .tuple #[u4, .bool true]) (by simp [results, Tryz.results81, go_sem]) rfl ?_)
                rw [← HG2.out]
                exact ⟨u4, rfl, HOO.out, HKK.out, by have := HSZ.out; show outl.length ≤ n; omega⟩
              · rw [if_neg (by rintro (h | h | h); exact h rfl; exact hb2 h; exact hb3 h)] at hg
                have hb2' : ¬ (nn : Int) < 1 := by omega
                have hb3' : ¬ (16384 : Int) < (nn : Int) := by omega
                have HG2 := Lib.hid hg
                have hbb := HBN.out.1
                have hbc := HBN.out.2.1
                have hbd : c' < 9223372036854775808 := Nat.lt_succ_of_le HBN.out.2.2
                obtain ⟨hi, hhi⟩ : ∃ hi, min n' (5 + nn) = hi := ⟨_, rfl⟩
                have hmin : min (n' : Int) (5 + (nn : Int)) = (hi : Int) := by omega
                have hhc : (hi : Int) ≤ (c' : Int) := by omega
                have hh0 : (0 : Int) ≤ (hi : Int) := by omega
                have hh5 : (5 : Int) ≤ (hi : Int) := by omega
                obtain ⟨p, hp⟩ : ∃ p, hi - 5 = p := ⟨_, rfl⟩
                have hhn : (hi : Int) ≤ (n' : Int) := by omega
                have hnc : (n' : Int) ≤ (c' : Int) := by omega
                have HS5 := Lib.hid (sum5 hp (by omega) (by have := HSZ.out; omega))
                obtain ⟨X, hX⟩ : ∃ X, (if c' = 5 then some (⟨g, o, none⟩ : Addr) else some ⟨g, o + 5, none⟩) = X := ⟨_, rfl⟩
                obtain ⟨X2, hX2⟩ : ∃ X, (if c' = hi then some (⟨g, o, none⟩ : Addr) else some ⟨g, o + hi, none⟩) = X := ⟨_, rfl⟩
                have hpart : BytesV w (.slice X p (c' - 5)) ((t').take nn) := by
                  have h := HBI.out.sub (lo := 5) (hi := hi) (by omega) (by omega) X (c' - 5) (fun h0 => by rw [← hX, if_neg (by omega)]) (by omega) (Nat.le_trans (Nat.sub_le _ _) HBN.out.2.2)
                  rw [hp] at h
                  have e : ((22 :: 3 :: x2 :: x3 :: x4 :: t' : List UInt8).drop 5).take p = t'.take nn := by
                    show t'.take p = t'.take nn
                    simp at hbb
                    by_cases hq : nn ≤ t'.length
                    · have : p = nn := by omega
                      rw [this]
                    · rw [List.take_of_length_le (by omega), List.take_of_length_le (by omega)]
                  rw [e] at h
                  exact h
                have hrest : BytesV w (.slice X2 (n' - hi) (c' - hi)) ((t').drop nn) := by
                  have h := HBI.out.sub (lo := hi) (hi := n') (by omega) (by omega) X2 (c' - hi) (fun h0 => by rw [← hX2, if_neg (by omega)]) (by omega) (Nat.le_trans (Nat.sub_le _ _) HBN.out.2.2)
                  have e : ((22 :: 3 :: x2 :: x3 :: x4 :: t' : List UInt8).drop hi).take (n' - hi) = t'.drop nn := by
                    rw [List.take_of_length_le (by rw [List.length_drop]; omega), show hi = 5 + p by omega, ← List.drop_drop]
                    show t'.drop p = t'.drop nn
                    simp at hbb
                    by_cases hq : nn ≤ t'.length
                    · have : p = nn := by omega
                      rw [this]
                    · rw [List.drop_of_length_le (by omega), List.drop_of_length_le (by omega)]
                  rw [e] at h
                  exact h
                have HP := Lib.hid hpart
                have HRE := Lib.hid hrest
                have HH := Lib.hid (And.intro hhi (And.intro hp hbb))
                obtain ⟨hsum, hsum2⟩ := HS5.out
                clear hg hpart hrest hbb hbc hhi hbd
                go_wp2_with fail
                go_region_held3 (fun W => W.cell? ⟨g, o + 3, none⟩ = some (.int .u8 (v3 : Int)) ∧ W.cell? ⟨g, o + 4, none⟩ = some (.int .u8 (x4.toNat : Int))) (exact HS6.out) (fail)
                go_wp2_with fail
                go_region_held3 (fun _ => True) (trivial)
                  (first | (refine step_append_B (.tmp 50) (.tmp 51) 22 rfl Tryz.underlying22 w.heap.size (Nat.le_trans HK.out.size (Nat.le_refl _)) _ _ outl (by rfl) HOO.out _ _ (by rfl) (HP.out.keep0 HKK.out.drew') (by have := HSZ.out; simp; omega) ?_; intro v5 w5 hown5 hg5 hb5))
                go_wp2_with fail
                clear hsum hsum2 hor hmin
                have hlt : (t'.drop nn).length = t'.length - nn := List.length_drop ..
                have hlk : (t'.take nn).length = min nn t'.length := List.length_take ..
                have hk5 : Keeps [] w w5 := (HKK.out.drew').own hg5 (fun j hj => by
                  rcases HO.out.2 with ⟨h0, _⟩ | ⟨g', cap, cur, h0, h1, _⟩
                  · rw [h0] at hj; cases hj
                  · rw [h0] at hj
                    have hj2 : g' = j := by injection hj
                    rw [← hj2]
                    exact h1)
                obtain ⟨q1, q2, q3⟩ := HH.out
                simp only [List.length_cons] at q3
                refine ⟨⟨X2, n' - hi, c' - hi, t'.drop nn, outl ++ t'.take nn, rfl, HRE, Lib.hid (by rw [List.length_append]; exact hown5), Lib.hid hk5, Lib.hid ?_, ?_⟩, ?_⟩
                · rw [← HG2.out]
                  exact partsG_fuel _ _ _ _ (by omega) (by simp only [List.length_cons]; omega)
                · rw [List.length_append]
                  have := HSZ.out
                  omega
                · show n' - hi < n'
                  omega
end Go.Proofs.YtpoheemjdieogaaGreatDoor
