/-
  The walks of the document's host, Inside and Catches. Condition: the names are not long.
-/
import Derived.Test.YtbmkdnkiojapbaaDoorPolX
namespace Go.Proofs.YtbmkdnkiojapbaaDoor
open Go.RowKit Go.Lib
set_option linter.unusedVariables false
set_option linter.unusedSimpArgs false

def starQ (s : ByteArray) : Bool := [42, 46].isPrefixOf s.data.toList
theorem host_yes {s : ByteArray} (h2 : 2 ≤ s.size) (h : s.extract 0 2 = ⟨#[42, 46]⟩) : starQ s = true ∧ hostB s = s.extract 2 s.size ∧ s.data.toList = 42 :: 46 :: (hostB s).data.toList := by
  have hd : s.data.toList.take 2 = [42, 46] := by
    have := congrArg (fun x => x.data.toList) h
    simp only [Lib.extract_data] at this
    simpa using this
  have hs : s.data.toList = 42 :: 46 :: s.data.toList.drop 2 := by
    conv => lhs; rw [← List.take_append_drop 2 s.data.toList, hd]
    rfl
  have hq : starQ s = true := by unfold starQ; rw [hs]; rfl
  have he : (s.extract 2 s.size).data.toList = s.data.toList.drop 2 := by
    rw [Lib.extract_data, List.take_of_length_le (by rw [List.length_drop, ← size_eq]; omega)]
  have hh : hostB s = s.extract 2 s.size := by
    apply ba_ext
    rw [he]
    unfold hostB trimPrefix
    rw [if_pos (show hasPrefix s.data.toList [42, 46] = true from hq)]
    rfl
  refine ⟨hq, hh, ?_⟩
  rw [hh, he]
  exact hs
theorem star_take : ∀ l : List UInt8, [42, 46].isPrefixOf l = true → (l.drop 0).take (2 - 0) = [42, 46] ∧ 2 ≤ l.length
  | [], h => by simp at h
  | [a], h => by simp [List.isPrefixOf] at h
  | a :: b :: t, h => by
    simp [List.isPrefixOf] at h
    obtain ⟨rfl, rfl⟩ := h
    exact ⟨rfl, by simp⟩
theorem host_no {s : ByteArray} (h : s.size < 2 ∨ ¬ s.extract 0 2 = ⟨#[42, 46]⟩) : starQ s = false ∧ hostB s = s := by
  have hq : starQ s = false := by
    apply Bool.eq_false_iff.2
    intro hp
    obtain ⟨h1, h2⟩ := star_take _ hp
    rw [← size_eq] at h2
    apply h.resolve_left (by omega)
    apply ba_ext
    rw [Lib.extract_data]
    exact h1
  refine ⟨hq, ?_⟩
  apply ba_ext
  unfold hostB trimPrefix
  rw [if_neg (show ¬ hasPrefix s.data.toList [42, 46] = true from fun e => by have e2 : starQ s = true := e; rw [hq] at e2; cases e2)]
set_option maxRecDepth 100000 in
set_option maxHeartbeats 2000000 in
theorem rhost_any (w : World) (s : ByteArray) : Calls Tryd.prog 43 #[.string s] w fun e w' => e = .returned (.tuple #[.string (hostB s), .bool (starQ s)]) ∧ w' = w := by
  by_cases h2 : s.size < 2
  · rw [(host_no (.inl h2)).1, (host_no (.inl h2)).2]
    have h2' : ¬ (2 : Int) ≤ s.size := by omega
    clear h2
    go_enter Tryd.func43, Tryd.ntmps43
    go_wp2_with fail
    go_ret2
    exact ⟨rfl, rfl⟩
  · have h2' : (2 : Int) ≤ s.size := by omega
    by_cases hp : s.extract 0 2 = ⟨#[42, 46]⟩
    · obtain ⟨e1, e2, _⟩ := host_yes (by omega) hp
      rw [e1, e2]
      have hp2 : ((s.extract 0 2).toList == [42, 46]) = true := by rw [hp, Lib.toList_data]; rfl
      obtain ⟨px, hpx⟩ : ∃ px, s.extract 0 2 = px := ⟨_, rfl⟩
      obtain ⟨sx, hsx⟩ : ∃ sx, s.extract 2 s.size = sx := ⟨_, rfl⟩
      rw [hpx] at hp2
      rw [hsx]
      clear hp e1 e2 h2
      go_enter Tryd.func43, Tryd.ntmps43
      go_wp2_with fail
      go_ret2
      exact ⟨rfl, rfl⟩
    · obtain ⟨e1, e2⟩ := host_no (.inr hp)
      rw [e1, e2]
      have hp2 : ((s.extract 0 2).toList == [42, 46]) = false := by
        rw [Lib.toList_data]
        exact beq_eq_false_iff_ne.2 (fun e => hp (ba_ext e))
      obtain ⟨px, hpx⟩ : ∃ px, s.extract 0 2 = px := ⟨_, rfl⟩
      rw [hpx] at hp2
      clear hp e1 e2 h2
      go_enter Tryd.func43, Tryd.ntmps43
      go_wp2_with fail
      go_ret2
      exact ⟨rfl, rfl⟩
/-- how near a rule's name is to a host's -/
def catchL (z g : ByteArray) : Int :=
  if z.toList.isEmpty = true then 1 else if g.toList.isEmpty = true then 0 else if z = g then 1000 else
  if starQ z = true ∧ (hostB z).size + 1 ≤ g.size ∧ g.extract (g.size - (hostB z).size) g.size = hostB z ∧ g.data.toList[g.size - (hostB z).size - 1]? = some 46 then 1 + (hostB z).size else 0
set_option maxRecDepth 100000 in
set_option maxHeartbeats 4000000 in
theorem catch_any (w : World) (z g : ByteArray) (hz : z.size ≤ 1000000) (hg : g.size ≤ 1000000) : Calls Tryd.prog 46 #[.string z, .string g] w fun e w' => e = .returned (.int .i64 (catchL z g)) ∧ w' = w := by
  obtain ⟨v, hv⟩ : ∃ v, catchL z g = v := ⟨_, rfl⟩
  rw [hv]
  unfold catchL at hv
  cases h1 : z.toList.isEmpty with
  | true =>
    rw [if_pos h1] at hv
    subst hv
    clear hz hg
    go_enter Tryd.func46, Tryd.ntmps46
    go_wp2_with fail
    go_ret
    exact ⟨rfl, rfl⟩
  | false =>
    rw [if_neg (by rw [h1]; simp)] at hv
    cases h2 : g.toList.isEmpty with
    | true =>
      rw [if_pos h2] at hv
      subst hv
      clear hz hg
      go_enter Tryd.func46, Tryd.ntmps46
      go_wp2_with fail
      go_ret
      exact ⟨rfl, rfl⟩
    | false =>
      rw [if_neg (by rw [h2]; simp)] at hv
      by_cases h3 : z = g
      · rw [if_pos h3] at hv
        subst hv h3
        have h4 : (z.toList == z.toList) = true := by simp
        clear hz hg
        go_enter Tryd.func46, Tryd.ntmps46
        go_wp2_with fail
        go_ret
        exact ⟨rfl, rfl⟩
      · rw [if_neg h3] at hv
        have h4 : (z.toList == g.toList) = false := by rw [ba_toList]; exact decide_eq_false h3
        have HH := rhost_any w z
        have hsz : (hostB z).size ≤ z.size := by
          unfold hostB trimPrefix
          split
          · show ((z.data.toList.drop _).toArray).size ≤ z.size
            rw [List.size_toArray, List.length_drop, ← size_eq]; omega
          · show (z.data.toList.toArray).size ≤ z.size
            rw [List.size_toArray, ← size_eq]; exact Nat.le_refl _
        obtain ⟨h, hh⟩ : ∃ h, hostB z = h := ⟨_, rfl⟩
        obtain ⟨q, hq⟩ : ∃ q, starQ z = q := ⟨_, rfl⟩
        rw [hh] at hv HH hsz
        rw [hq] at hv HH
        have hw : wrap64 ((g.size : Int) - (h.size : Int)) = (g.size : Int) - (h.size : Int) := by unfold wrap64; omega
        have HV := Lib.hid hv
        have HHX := Lib.hid HH
        have HB := Lib.hid (And.intro hg (Nat.le_trans hsz hz))
        clear h3 hh hq hv HH hsz hz hg
        cases q with
        | false =>
          obtain rfl : v = 0 := by rw [← HV.out, if_neg (by simp)]
          go_enter Tryd.func46, Tryd.ntmps46
          go_wp2_with fail
          refine HHX.out.mono ?_
          rintro e w2 ⟨rfl, rfl⟩
          go_wp2_with fail
          go_ret
          exact ⟨rfl, rfl⟩
        | true =>
          by_cases h5 : h.size + 1 ≤ g.size
          · obtain ⟨k, hk⟩ : ∃ k : Nat, g.size - h.size = k := ⟨_, rfl⟩
            have hk1 : (g.size : Int) - (h.size : Int) = (k : Int) := by omega
            have hk2 : (1 : Int) ≤ (k : Int) := by omega
            have hk3 : (k : Int) ≤ (g.size : Int) := by omega
            rw [hk1] at hw
            have hkw : wrap64 ((k : Int) - 1) = ((k - 1 : Nat) : Int) := by have := HB.out; unfold wrap64; omega
            have hkn : k - 1 < g.size := by omega
            have hki : ((k - 1 : Nat) : Int) < (g.size : Int) := by omega
            obtain ⟨sx, hsx⟩ : ∃ sx, g.extract k g.size = sx := ⟨_, rfl⟩
            obtain ⟨x, hx⟩ : ∃ x : UInt8, g[k - 1] = x := ⟨_, rfl⟩
            have hxl : g.data.toList[k - 1]? = some x := by rw [← hx]; exact Lib.data_getElem? g (k - 1) hkn
            have hhw : wrap64 (1 + (h.size : Int)) = 1 + (h.size : Int) := by have := HB.out; unfold wrap64; omega
            by_cases h6 : sx = h
            · have h7 : (sx.toList == h.toList) = true := by rw [h6]; simp
              by_cases h8 : x = 46
              · obtain rfl : v = 1 + (h.size : Int) := by
                  rw [← HV.out, if_pos ⟨rfl, h5, by rw [hk, hsx]; exact h6, by rw [hk, hxl, h8]⟩]
                subst h8
                clear h6 h5 hk hxl
                go_enter Tryd.func46, Tryd.ntmps46
                go_wp2_with fail
                refine HHX.out.mono ?_
                rintro e w2 ⟨rfl, rfl⟩
                go_wp2_with fail
                go_ret
                exact ⟨by show Ending.returned (Value.int IntKind.i64 (wrap64 (1 + (h.size : Int)))) = _; rw [hhw], rfl⟩
              · obtain rfl : v = 0 := by
                  rw [← HV.out, if_neg (by rintro ⟨_, _, _, e⟩; rw [hk, hxl] at e; injection e with e; exact h8 e)]
                have h9 : ¬ (x.toNat : Int) = 46 := by
                  intro e
                  apply h8
                  apply UInt8.toNat_inj.1
                  have : x.toNat = 46 := by omega
                  rw [this]; rfl
                clear h6 h5 hk hxl h8
                go_enter Tryd.func46, Tryd.ntmps46
                go_wp2_with fail
                refine HHX.out.mono ?_
                rintro e w2 ⟨rfl, rfl⟩
                go_wp2_with fail
                go_ret
                exact ⟨rfl, rfl⟩
            · have h7 : (sx.toList == h.toList) = false := by rw [ba_toList]; exact decide_eq_false h6
              obtain rfl : v = 0 := by
                rw [← HV.out, if_neg (by rintro ⟨_, _, e, _⟩; rw [hk, hsx] at e; exact h6 e)]
              clear h6 h5 hk hxl
              go_enter Tryd.func46, Tryd.ntmps46
              go_wp2_with fail
              refine HHX.out.mono ?_
              rintro e w2 ⟨rfl, rfl⟩
              go_wp2_with fail
              go_ret
              exact ⟨rfl, rfl⟩
          · obtain rfl : v = 0 := by rw [← HV.out, if_neg (by rintro ⟨_, e, _⟩; exact h5 e)]
            have h5' : ¬ (1 : Int) ≤ (g.size : Int) - (h.size : Int) := by omega
            clear h5
            go_enter Tryd.func46, Tryd.ntmps46
            go_wp2_with fail
            refine HHX.out.mono ?_
            rintro e w2 ⟨rfl, rfl⟩
            go_wp2_with fail
            go_ret
            exact ⟨rfl, rfl⟩
end Go.Proofs.YtbmkdnkiojapbaaDoor
