/-
  The walk of the law ReasmHalves. Condition: the arguments are in the ranges of their kinds.
-/
import Derived.Test.YtknlcieceghaiaaReasmStays
import Derived.Deep.RegionWith
import Derived.Deep.RegionHeldLaw
namespace Go.Proofs.Ytknlcieceghaiaa
open Go.RowKit
set_option linter.unusedVariables false
set_option linter.unusedSimpArgs false

/-- the part of a stream from k on; up to k; all -/
def gFrom (S : List UInt8) (k j : Nat) : Option UInt8 := if k ≤ j then S[j]? else none
def gUpto (S : List UInt8) (k j : Nat) : Option UInt8 := if j < k then S[j]? else none
theorem gFrom_some (S : List UInt8) (k j : Nat) : (gFrom S k j).isSome = (decide (k ≤ j) && decide (j < S.length)) := by
  unfold gFrom
  by_cases h : k ≤ j
  · rw [if_pos h]
    by_cases h2 : j < S.length
    · simp [h, h2]
    · rw [List.getElem?_eq_none (by omega)]; simp [h2]
  · rw [if_neg h]; simp [h]
theorem put_from (M : Nat) (hM : M = 400) (S : List UInt8) (hS : S.length ≤ 300) (k T : Nat) (hT : T ≤ k) (g : Nat → Option UInt8) (j : Nat) : (fun j => (g j).or (gFrom S k j)) j = (g j).or (if max k T ≤ j ∧ j < min (k + (S.drop k).length) M then (S.drop k)[j - k]? else none) := by
  simp only []
  congr 1
  rw [List.length_drop]
  unfold gFrom
  by_cases h : k ≤ j
  · rw [if_pos h]
    by_cases h2 : j < S.length
    · rw [if_pos (by omega), List.getElem?_drop, show k + (j - k) = j by omega]
    · rw [if_neg (by omega), List.getElem?_eq_none (by omega)]
  · rw [if_neg h, if_neg (by omega)]
theorem put_upto (M : Nat) (hM : M = 400) (S : List UInt8) (hS : S.length ≤ 300) (k : Nat) (hk : k ≤ S.length) (g : Nat → Option UInt8) (j : Nat) : (fun j => (g j).or (gUpto S k j)) j = (g j).or (if max 0 0 ≤ j ∧ j < min (0 + (S.take k).length) M then (S.take k)[j - 0]? else none) := by
  simp only []
  congr 1
  rw [List.length_take, Nat.min_eq_left hk]
  unfold gUpto
  by_cases h : j < k
  · rw [if_pos h, if_pos (by omega), List.getElem?_take, if_pos (by omega)]; rfl
  · rw [if_neg h, if_neg (by omega)]
/-- how many are new from k on, where all from q on (q ≤ the end) are there, or none (q = the end) -/
theorem cnt_from (M : Nat) (hM : M = 400) (S : List UInt8) (hS : S.length ≤ 300) (k T q : Nat) (hT : T ≤ k) (hk : k ≤ S.length) (hq : q ≤ S.length) (g : Nat → Option UInt8) (hg : ∀ j, j < S.length → k ≤ j → (g j).isSome = decide (q ≤ j)) :
    cntF M (fun j => decide (max k T ≤ j) && decide (j < min (k + (S.drop k).length) M) && !(g j).isSome) = q - k := by
  have e : cntF M (fun j => decide (max k T ≤ j) && decide (j < min (k + (S.drop k).length) M) && !(g j).isSome) = cntF M (fun j => decide (k ≤ j) && decide (j < q)) := by
    refine cntF_congr fun i _ => ?_
    have h1 : max k T = k := by omega
    have h2 : min (k + (S.drop k).length) M = S.length := by rw [List.length_drop]; omega
    rw [h1, h2, Bool.eq_iff_iff]
    by_cases h : k ≤ i ∧ i < S.length
    · rw [hg i h.2 h.1]; simp [h.1, h.2]
    · simp; omega
  rw [e, cntF_iv _ _ _ (by omega)]
theorem cnt_upto (M : Nat) (hM : M = 400) (S : List UInt8) (hS : S.length ≤ 300) (k q : Nat) (hk : k ≤ S.length) (hq : q ≤ k) (g : Nat → Option UInt8) (hg : ∀ j, j < k → (g j).isSome = decide (q ≤ j)) :
    cntF M (fun j => decide (max 0 0 ≤ j) && decide (j < min (0 + (S.take k).length) M) && !(g j).isSome) = q := by
  have e : cntF M (fun j => decide (max 0 0 ≤ j) && decide (j < min (0 + (S.take k).length) M) && !(g j).isSome) = cntF M (fun j => decide (0 ≤ j) && decide (j < q)) := by
    refine cntF_congr fun i _ => ?_
    have h2 : min (0 + (S.take k).length) M = k := by rw [List.length_take]; omega
    rw [h2, Bool.eq_iff_iff]
    by_cases h : i < k
    · rw [hg i h]; simp [h]
    · simp; omega
  rw [e, cntF_iv _ _ _ (by omega)]; omega
theorem none_is (n j : Nat) (h : j < n) : ((fun _ => none : Nat → Option UInt8) j).isSome = decide (n ≤ j) := by
  have : ¬ n ≤ j := by omega
  simp [this]
theorem whole_get (S : List UInt8) (k j : Nat) : (gFrom S k j).or (gUpto S k j) = S[j]? := by
  unfold gFrom gUpto
  by_cases h : k ≤ j
  · rw [if_pos h, if_neg (by omega)]; cases S[j]? <;> rfl
  · rw [if_neg h, if_pos (by omega)]; rfl

theorem half_get (S : List UInt8) (k c j : Nat) : Option.or (Option.or (Option.or ((fun _ => none : Nat → Option UInt8) j) (gFrom S k j)) (gFrom S c j)) (gUpto S c j) = S[j]? := by
  unfold gFrom gUpto
  simp only [Option.none_or]
  by_cases h : k ≤ j
  · rw [if_pos h]
    cases hs : S[j]? with
    | some x => rfl
    | none => simp
  · rw [if_neg h]
    by_cases h1 : c ≤ j
    · rw [if_pos h1, if_neg (by omega)]; cases S[j]? <;> rfl
    · rw [if_neg h1, if_pos (by omega)]; cases S[j]? <;> rfl
theorem a_get (S : List UInt8) (k j : Nat) : Option.or (Option.or ((fun _ => none : Nat → Option UInt8) j) (gFrom S k j)) (gUpto S k j) = S[j]? := by
  simp only [Option.none_or]
  exact whole_get S k j

theorem dtake' {w : World} {b mb : Nat} {first : Int} {T M H : Nat} {g : Nat → Option UInt8} (h : DB w b mb first T M g H) {R : Nat} (hR : T ≤ R) (h1 : ∀ j, T ≤ j → j < R → (g j).isSome = true) (h2 : g R = none) (l : List UInt8) (hl : l.length = R - T) (hl2 : ∀ i, i < R - T → l[i]? = g (T + i)) (z : Nat) (hz : l.length = z) :
    Calls Try.prog 10 #[.pointer (some ⟨b, 0, none⟩)] w fun e w' => ∃ A c, e = .returned (.slice A z c) ∧ BytesV w' (.slice A z c) l ∧ (∀ g o, A = some ⟨g, o, none⟩ → w.heap.size ≤ g) ∧ DB w' b mb first R M (fun j => if j < R then none else g j) H ∧ Keeps [b, mb] w w' := by
  subst hz
  exact dtake h hR h1 h2 l hl hl2
theorem cat_bytes (S : List UInt8) (k : Nat) : ((⟨(S.take k).toArray⟩ : ByteArray) ++ (⟨(S.drop k).toArray⟩ : ByteArray)) = ⟨S.toArray⟩ := by
  apply ByteArray.ext
  simp

set_option maxRecDepth 100000 in
set_option maxHeartbeats 8000000 in
theorem halves_walk (W : World) (first at0 cut0 : Int) (u0 : U32 first) (r0 : 0 ≤ at0) (r1 : at0 ≤ 65535) (r2 : 0 ≤ cut0) (r3 : cut0 ≤ 65535) (A0 : Option Addr) (n0 c0 : Nat) (l0 : List UInt8) (hb : BytesV W (.slice A0 n0 c0) l0) :
    Calls Try.prog 6 #[.slice A0 n0 c0, .int .u32 first, .int .u16 at0, .int .u16 cut0] W fun e w' => e = .returned (.bool true) ∧ Keeps [] W w' := by
  obtain ⟨hn0, hn1, hn2⟩ := hb.form
  subst hn0
  obtain ⟨S, hS⟩ : ∃ S, S = l0.take 300 := ⟨_, rfl⟩
  obtain ⟨n, hn⟩ : ∃ n, S.length = n := ⟨_, rfl⟩
  have hSa : min (l0.length : Int) 300 = n := by rw [← hn, hS]; simp; omega
  have hn3 : n ≤ 300 := by rw [← hn, hS]; simp; omega
  have hnc : n ≤ c0 := by rw [← hn, hS]; simp; omega
  have hnc' : (n : Int) ≤ c0 := by omega
  have hn0' : (0 : Int) ≤ n := by omega
  have hbs : BytesV W (.slice A0 n c0) S := by
    have h1 : n ≤ l0.length := by rw [← hn, hS]; simp; omega
    have := hb.upto h1
    rw [show l0.take n = S by rw [← hn, hS]; simp [List.take_eq_take_iff]] at this
    exact this
  obtain ⟨k, hk⟩ : ∃ k : Nat, at0 % ((n : Int) + 1) = k := ⟨(at0 % ((n : Int) + 1)).toNat, by have := Int.emod_nonneg at0 (show (n : Int) + 1 ≠ 0 by omega); omega⟩
  have hkl : k ≤ n := by have := Int.emod_lt_of_pos at0 (show (0 : Int) < (n : Int) + 1 by omega); omega
  obtain ⟨c, hc⟩ : ∃ k : Nat, cut0 % ((n : Int) + 1) = k := ⟨(cut0 % ((n : Int) + 1)).toNat, by have := Int.emod_nonneg cut0 (show (n : Int) + 1 ≠ 0 by omega); omega⟩
  have hcl : c ≤ n := by have := Int.emod_lt_of_pos cut0 (show (0 : Int) < (n : Int) + 1 by omega); omega
  have hkl' : (k : Int) ≤ n := by omega
  have hkc' : (k : Int) ≤ c0 := by omega
  have hcl' : (c : Int) ≤ n := by omega
  have hcc' : (c : Int) ≤ c0 := by omega
  have hne : (n : Int) + 1 ≠ 0 := by omega
  have hw1 : IntKind.i64.wrap ((n : Int) + 1) = (n : Int) + 1 := IntWalk.i64_in _ (by omega)
  obtain ⟨M, hM⟩ : ∃ M : Nat, M = 400 := ⟨_, rfl⟩
  obtain ⟨m1, hm1⟩ : ∃ m1 : Nat, m1 = n - k := ⟨_, rfl⟩
  obtain ⟨q, hq⟩ : ∃ q : Nat, q = k - c := ⟨_, rfl⟩
  obtain ⟨r, hr⟩ : ∃ r : Nat, r = min c k := ⟨_, rfl⟩
  have e1 : (m1 : Int) + k = n := by omega
  have e2 : IntKind.i64.wrap ((m1 : Int) + k) = n := by rw [e1]; exact IntWalk.i64_in _ (by omega)
  have e3 : (k : Int) + m1 = n := by omega
  have e4 : IntKind.i64.wrap ((k : Int) + m1) = n := by rw [e3]; exact IntWalk.i64_in _ (by omega)
  have e5 : (q : Int) + r = k := by omega
  have e6 : IntKind.i64.wrap ((q : Int) + r) = k := by rw [e5]; exact IntWalk.i64_in _ (by omega)
  obtain ⟨X, hX⟩ : ∃ X, (if c0 = k then A0 else Option.map (fun x : Addr => x.add k) A0) = X := ⟨_, rfl⟩
  have HAX := Lib.hid (hbs.fromX hkl hX)
  obtain ⟨Y, hY⟩ : ∃ X, (if c0 = c then A0 else Option.map (fun x : Addr => x.add c) A0) = X := ⟨_, rfl⟩
  have HAY := Lib.hid (hbs.fromX hcl hY)
  have HUK := Lib.hid (hbs.upto hkl)
  have HUC := Lib.hid (hbs.upto hcl)
  have HA := Lib.hid hbs
  have HN := Lib.hid hn
  have HQ := Lib.hid hq
  have HR := Lib.hid hr
  have HM1 := Lib.hid hm1
  -- the puts' plain facts
  have hS3 : S.length ≤ 300 := by omega
  have hkS : k ≤ S.length := by omega
  have hcS : c ≤ S.length := by omega
  have P1 := Lib.hid (put_from M hM S hS3 k 0 (by omega) (fun _ => none))
  have C1 := Lib.hid (show _ = m1 from (cnt_from M hM S hS3 k 0 n (by omega) hkS (by omega) (fun _ => none) (fun j h1 _ => none_is n j (by omega))).trans hm1.symm)
  have P2 := Lib.hid (put_upto M hM S hS3 k hkS (fun j => Option.or ((fun _ => none : Nat → Option UInt8) j) (gFrom S k j)))
  have C2 := Lib.hid (cnt_upto M hM S hS3 k k hkS (Nat.le_refl _) (fun j => Option.or ((fun _ => none : Nat → Option UInt8) j) (gFrom S k j)) (fun j h => by
    have : ¬ k ≤ j := by omega
    simp only [Option.none_or]
    rw [gFrom_some]; simp [this]))
  have P3 := Lib.hid (put_upto M hM S hS3 k hkS (fun _ => none))
  have C3 := Lib.hid (cnt_upto M hM S hS3 k k hkS (Nat.le_refl _) (fun _ => none) (fun j h => none_is k j h))
  have P4 := Lib.hid (put_from M hM S hS3 k k (Nat.le_refl _) (fun j => if j < k then none else Option.or ((fun _ => none : Nat → Option UInt8) j) (gUpto S k j)))
  have C4 := Lib.hid (show _ = m1 from (cnt_from M hM S hS3 k k n (Nat.le_refl _) hkS (by omega) (fun j => if j < k then none else Option.or ((fun _ => none : Nat → Option UInt8) j) (gUpto S k j)) (fun j h1 h2 => by
    have : ¬ n ≤ j := by omega
    have h3 : ¬ j < k := by omega
    simp [this, gUpto, h3])).trans hm1.symm)
  have P5 := Lib.hid (put_from M hM S hS3 c 0 (by omega) (fun j => Option.or ((fun _ => none : Nat → Option UInt8) j) (gFrom S k j)))
  have C5 := Lib.hid (show _ = q from (cnt_from M hM S hS3 c 0 (max k c) (by omega) hcS (by omega) (fun j => Option.or ((fun _ => none : Nat → Option UInt8) j) (gFrom S k j)) (fun j h1 h2 => by
    simp only [Option.none_or]
    rw [gFrom_some]
    rw [Bool.eq_iff_iff]; simp; omega)).trans (by omega))
  have P6 := Lib.hid (put_upto M hM S hS3 c hcS (fun j => Option.or (Option.or ((fun _ => none : Nat → Option UInt8) j) (gFrom S k j)) (gFrom S c j)))
  have C6 := Lib.hid (show _ = r from (cnt_upto M hM S hS3 c (min c k) hcS (by omega) (fun j => Option.or (Option.or ((fun _ => none : Nat → Option UInt8) j) (gFrom S k j)) (gFrom S c j)) (fun j h => by
    simp only [Option.none_or, Option.isSome_or]
    rw [gFrom_some, gFrom_some]
    rw [Bool.eq_iff_iff]; simp; omega)).trans hr.symm)
  have LD1 := Lib.hid (show (S.drop k).length ≤ 20000 by rw [List.length_drop]; omega)
  have LD2 := Lib.hid (show (S.drop c).length ≤ 20000 by rw [List.length_drop]; omega)
  have LT1 := Lib.hid (show (S.take k).length ≤ 20000 by rw [List.length_take]; omega)
  have LT2 := Lib.hid (show (S.take c).length ≤ 20000 by rw [List.length_take]; omega)
  have F0 := Lib.hid (show first = addI first ((0 : Nat) : Int) by unfold addI; have := u0.1; have := u0.2; omega)
  clear hb hS hbs hn hq hr hm1 hS3 hkS hcS
  go_enter Try.func6, Try.ntmps6
  go_wp2_with fail
  go_region_held3 (fun _ => True) (trivial) (fail)
  go_wp2_with fail
  refine (dnew _ first u0 M 400 (by omega) (by omega)).mono ?_
  rintro e w1 ⟨a, ma, rfl, hd1, k1, hbs, hms⟩
  have hbs : W.heap.size ≤ a := hbs
  have hms : W.heap.size ≤ ma := hms
  have HD := Lib.hid hd1
  have K1 := Lib.hid ((Keeps.drew [] W).trans k1)
  clear hd1 k1
  go_wp2_with fail
  refine (dnew _ first u0 M 400 (by omega) (by omega)).mono ?_
  rintro e w2 ⟨b, mb, rfl, hd2, k2, hbs2, hms2⟩
  have hla := HD.out.lt
  have hz1 := K1.out.size
  have HDa := Lib.hid (HD.out.keep0 k2)
  have HDb := Lib.hid hd2
  have K2 := Lib.hid (K1.out.trans k2)
  clear hd2 k2 K1 HD
  go_wp2_with fail
  have HH := dput HDa.out (by omega) k (addI first k) rfl _ _ _ (S.drop k) (HAX.out.keep0 K2.out) (by omega) LD1.out (fun j => Option.or ((fun _ => none : Nat → Option UInt8) j) (gFrom S k j)) P1.out m1 C1.out
  refine HH.mono ?_
  clear HH
  rintro e w3 ⟨rfl, k3, ma3, hd3, hz3⟩
  have hlb := HDb.out.lt
  have hz2 := K2.out.size
  have HDa3 := Lib.hid hd3
  have HDb3 := Lib.hid (HDb.out.keep k3 (by simp; omega) (by simp; omega))
  have K3 := Lib.hid (((K2.out.mono (T := [a]) (by simp)).trans k3).fresh (T := []) (by intro x hx hlt; simp at hx; omega))
  have hz33 := k3.size
  clear hd3 k3 K2 HDa HDb
  go_wp2_with fail
  obtain ⟨rd, hrd⟩ : ∃ rd : Nat, rd = if 0 < k then 0 else n := ⟨_, rfl⟩
  have HH := dready HDa3.out (R := rd) (by omega) (fun j _ hj => by
    have hnn := HN.out
    by_cases h0 : 0 < k
    · rw [if_pos h0] at hrd; omega
    · rw [if_neg h0] at hrd
      simp only [Option.none_or]
      rw [gFrom_some]
      have h1 : k ≤ j := by omega
      have h2 : j < S.length := by omega
      simp [h1, h2]) (by
    have hnn := HN.out
    simp only [Option.none_or]
    unfold gFrom
    by_cases h0 : 0 < k
    · rw [if_pos h0] at hrd; rw [if_neg (by omega)]
    · rw [if_neg h0] at hrd; rw [if_pos (by omega), List.getElem?_eq_none (by omega)]) rd (by omega)
  have HRD := Lib.hid hrd
  clear hrd
  refine HH.mono ?_
  clear HH
  rintro e w4 ⟨rfl, k4⟩
  have HDa4 := Lib.hid (HDa3.out.keep0 k4)
  have HDb4 := Lib.hid (HDb3.out.keep0 k4)
  have K4 := Lib.hid (K3.out.trans k4)
  have hla3 := HDa3.out.lt
  have hlb3 := HDb3.out.lt
  have hz34 := k4.size
  clear k4 HDa3 HDb3 K3
  go_wp2_with fail
  refine (dcopy HDa4.out).mono ?_
  rintro e w5 ⟨h, mh, rfl, hd5, k5, hz5, hz5'⟩
  have HDa5 := Lib.hid (HDa4.out.keep0 k5)
  have HDb5 := Lib.hid (HDb4.out.keep0 k5)
  have HDh5 := Lib.hid hd5
  have K5 := Lib.hid (K4.out.trans k5)
  have hlh := hd5.lt
  have hz45 := k5.size
  have hz44 := K4.out.size
  clear k5 hd5 HDa4 HDb4 K4
  go_wp2_with fail
  have HH := dput HDa5.out (by omega) 0 first F0.out _ _ _ (S.take k) (HUK.out.keep0 K5.out) (by omega) LT1.out _ P2.out k C2.out
  refine HH.mono ?_
  clear HH
  rintro e w6 ⟨rfl, k6, ma6, hd6, hz6⟩
  have HDa6 := Lib.hid hd6
  have HDb6 := Lib.hid (HDb5.out.keep k6 (by simp; omega) (by simp; omega))
  have HDh6 := Lib.hid (HDh5.out.keep k6 (by simp; omega) (by simp; omega))
  have hz55 := K5.out.size
  have K6 := Lib.hid (((K5.out.mono (T := [a]) (by simp)).trans k6).fresh (T := []) (by intro x hx hlt; simp at hx; omega))
  have hz56 := k6.size
  have hla6 := hd6.lt
  clear hd6 k6 K5 HDa5 HDb5 HDh5
  go_wp2_with fail
  have HH := dput HDb6.out (by omega) 0 first F0.out _ _ _ (S.take k) (HUK.out.keep0 K6.out) (by omega) LT1.out _ P3.out k C3.out
  refine HH.mono ?_
  clear HH
  rintro e w7 ⟨rfl, k7, mb7, hd7, hz7⟩
  have HDb7 := Lib.hid hd7
  have HDa7 := Lib.hid (HDa6.out.keep k7 (by simp; omega) (by simp; omega))
  have HDh7 := Lib.hid (HDh6.out.keep k7 (by simp; omega) (by simp; omega))
  have hz66 := K6.out.size
  have K7 := Lib.hid (((K6.out.mono (T := [b]) (by simp)).trans k7).fresh (T := []) (by intro x hx hlt; simp at hx; omega))
  have hz67 := k7.size
  have hlb7 := hd7.lt
  clear hd7 k7 K6 HDa6 HDb6 HDh6
  go_wp2_with fail
  have hnn := HN.out
  have LK := Lib.hid (show (S.take k).length = k by rw [List.length_take]; omega)
  have LM := Lib.hid (show (S.drop k).length = m1 by rw [List.length_drop]; have := HM1.out; omega)
  clear hnn
  have HH := dtake' HDb7.out (R := k) (Nat.zero_le _) (fun j _ hj => by
    have hnn := HN.out
    have : j < S.length := by omega
    simp [gUpto, hj, this]) (by simp [gUpto]) (S.take k) (by rw [LK.out]; omega) (fun i hi => by
    have : i < k := by omega
    simp [gUpto, List.getElem?_take, this]) k LK.out
  refine HH.mono ?_
  clear HH
  rintro e w8 ⟨Ax, cx, rfl, hx, hxg, hd8, k8⟩
  have HX8 := Lib.hid hx
  have HXG := Lib.hid hxg
  have HDb8 := Lib.hid hd8
  have HDa8 := Lib.hid (HDa7.out.keep k8 (by simp; omega) (by simp; omega))
  have HDh8 := Lib.hid (HDh7.out.keep k8 (by simp; omega) (by simp; omega))
  have hz77 := K7.out.size
  have K8 := Lib.hid (((K7.out.mono (T := [b, mb7]) (by simp)).trans k8).fresh (T := []) (by intro x hx hlt; simp at hx; omega))
  have hz78 := k8.size
  clear hx hxg hd8 k8 K7 HDa7 HDb7 HDh7
  go_wp2_with fail
  have HH := dput HDb8.out (by omega) k (addI first k) rfl _ _ _ (S.drop k) (HAX.out.keep0 K8.out) (by omega) LD1.out _ P4.out m1 C4.out
  refine HH.mono ?_
  clear HH
  rintro e w9 ⟨rfl, k9, mb9, hd9, hz9⟩
  have HDb9 := Lib.hid hd9
  have HDa9 := Lib.hid (HDa8.out.keep k9 (by simp; omega) (by simp; omega))
  have HDh9 := Lib.hid (HDh8.out.keep k9 (by simp; omega) (by simp; omega))
  have hz88 := K8.out.size
  have K9 := Lib.hid (((K8.out.mono (T := [b]) (by simp)).trans k9).fresh (T := []) (by intro x hx hlt; simp at hx; omega))
  have hz89 := k9.size
  have HX9 := Lib.hid (HX8.out.keepS k9 (fun _ g og n c e => by
    injection e with e1
    have := HXG.out g og e1
    simp; omega))
  have HXL := Lib.hid (fun (hp : 0 < k) (g o : Nat) (e : Ax = some ⟨g, o, none⟩) => (by
    obtain ⟨g', o', e2, hc⟩ := HX8.out.get hp
    rw [e] at e2
    injection e2 with e2
    injection e2 with e3 e4
    subst e3
    exact lt_of_cell (hc 0 _ (List.getElem?_eq_getElem (by rw [LK.out]; exact hp))) : g < w8.heap.size))
  have hlb9 := hd9.lt
  clear hd9 k9 K8 HDa8 HDb8 HDh8 HX8
  go_wp2_with fail
  have HH := dtake' HDb9.out (R := n) hkl (fun j h1 hj => by
    have hnn := HN.out
    have : j < S.length := by omega
    have h2 : ¬ j < k := by omega
    simp [gUpto, gFrom, h1, h2, this]) (by
    have hnn := HN.out
    have h2 : ¬ n < k := by omega
    have h3 : S[n]? = none := List.getElem?_eq_none (by omega)
    simp [gUpto, gFrom, h2, hkl, h3]) (S.drop k) (by rw [LM.out]; have := HM1.out; omega) (fun i hi => by
    have : ¬ (k + i < k) := by omega
    have h3 : k ≤ k + i := by omega
    simp [gUpto, gFrom, this, List.getElem?_drop, h3]) m1 LM.out
  refine HH.mono ?_
  clear HH
  rintro e w10 ⟨Ay, cy, rfl, hy, hyg, hd10, k10⟩
  have HY10 := Lib.hid hy
  have HDb10 := Lib.hid hd10
  have HDa10 := Lib.hid (HDa9.out.keep k10 (by simp; omega) (by simp; omega))
  have HDh10 := Lib.hid (HDh9.out.keep k10 (by simp; omega) (by simp; omega))
  have hz99 := K9.out.size
  have K10 := Lib.hid (((K9.out.mono (T := [b, mb9]) (by simp)).trans k10).fresh (T := []) (by intro x hx hlt; simp at hx; omega))
  have hz910 := k10.size
  have HX10 := Lib.hid (HX9.out.keepS k10 (fun hp g og n c e => by
    injection e with e1
    have := HXG.out g og e1
    have := HXL.out (by rw [← LK.out]; exact hp) g og e1
    simp; omega))
  clear hy hyg hd10 k10 K9 HDa9 HDb9 HDh9 HX9 HXG
  obtain ⟨bx, hbx⟩ : ∃ z : ByteArray, (⟨(S.take k).toArray⟩ : ByteArray) = z := ⟨_, rfl⟩
  obtain ⟨bd, hbd⟩ : ∃ z : ByteArray, (⟨(S.drop k).toArray⟩ : ByteArray) = z := ⟨_, rfl⟩
  obtain ⟨bs, hbS⟩ : ∃ z : ByteArray, (⟨S.toArray⟩ : ByteArray) = z := ⟨_, rfl⟩
  have hcat : bx ++ bd = bs := by rw [← hbx, ← hbd, ← hbS]; exact cat_bytes S k
  have hsz : bx.size + bd.size ≤ 9223372036854775807 := by
    rw [← hbx, ← hbd]
    have h1 := LK.out
    have h2 := LM.out
    have h3 := HM1.out
    show (S.take k).toArray.size + (S.drop k).toArray.size ≤ _
    rw [List.size_toArray, List.size_toArray]
    omega
  have hsz' : ¬ 9223372036854775807 < bx.size + bd.size := by omega
  clear e1 e3 e5
  have GS := Lib.hid (fun (Z : World) (kz : Keeps [] w10 Z) => (⟨by rw [← hbx]; exact (HX10.out.keep0 kz).str0 (P := Try.prog) 22 9 5 Try.underlying22 Try.underlying5 Try.underlying9,
      by rw [← hbd]; exact (HY10.out.keep0 kz).str0 (P := Try.prog) 22 9 5 Try.underlying22 Try.underlying5 Try.underlying9,
      by rw [← hbx]; exact (HUK.out.keep0 (K10.out.trans kz)).str0 (P := Try.prog) 22 9 5 Try.underlying22 Try.underlying5 Try.underlying9,
      by rw [← hbS]; exact (HA.out.keep0 (K10.out.trans kz)).str0 (P := Try.prog) 22 9 5 Try.underlying22 Try.underlying5 Try.underlying9⟩ :
      (convert 22 9 (.slice Ax k cx)).run Try.prog Z = .ok (.string bx) Z ∧ (convert 22 9 (.slice Ay m1 cy)).run Try.prog Z = .ok (.string bd) Z ∧
      (convert 22 9 (.slice A0 k c0)).run Try.prog Z = .ok (.string bx) Z ∧ (convert 22 9 (.slice A0 n c0)).run Try.prog Z = .ok (.string bs) Z))
  have HBS := Lib.hid hbS
  clear hbx hbd hbS
  obtain ⟨s1, s2, s3, s4⟩ := GS.out _ (Keeps.refl _ _)
  have hrd := HRD.out
  have hway : (Hid (0 < k ∧ (0 : Int) < (k : Int)) ∧ rd = 0) ∨ Hid (¬ 0 < k ∧ ¬ (0 : Int) < (k : Int)) := by
    by_cases hk0 : 0 < k
    · rw [if_pos hk0] at hrd
      exact .inl ⟨Lib.hid ⟨hk0, by omega⟩, hrd⟩
    · exact .inr (Lib.hid ⟨hk0, by omega⟩)
  have hlh10 := HDh10.out.lt
  have hla10 := HDa10.out.lt
  have hlb10 := HDb10.out.lt
  have hz10' := K10.out.size
  have DIS := Lib.hid (show (W.heap.size ≤ a ∧ W.heap.size ≤ ma6 ∧ W.heap.size ≤ b ∧ W.heap.size ≤ mb9 ∧ W.heap.size ≤ h ∧ W.heap.size ≤ mh) ∧ (a ≠ b ∧ a ≠ mb9 ∧ a ≠ h ∧ a ≠ mh) ∧ (ma6 ≠ b ∧ ma6 ≠ mb9 ∧ ma6 ≠ h ∧ ma6 ≠ mh) ∧ (b ≠ h ∧ b ≠ mh ∧ mb9 ≠ h ∧ mb9 ≠ mh) by omega)
  clear hrd HRD hlh10 hla10 hlb10 hz10' hbs hms hbs2 hms2 hla hz1 hlb hz2 hz3 hz33 hla3 hlb3 hz34 hz5 hz5' hlh hz45 hz44 hz6 hz55 hz56 hla6 hz7 hz66 hz67 hlb7 hz77 hz78 hz9 hz88 hz89 hlb9 hz99 hz910
  clear HAX HUK P1 C1 P2 C2 P3 C3 P4 C4 LD1 LT1 HQ HR HX10 HY10 HXL LK LM
  have HM1K := HM1
  clear HM1
  go_upto_region 15 with fail
  go_cut [170] (fun tv wx => tv = .bool false ∧ Hid (Keeps [] w10 wx))
  case first => as_aux_lemma =>
    clear HDh10 HDa10 HDb10 DIS P5 C5 P6 C6 LD2 LT2 HAY HUC F0
    rcases hway with ⟨HK, rfl⟩ | HK
    · obtain ⟨hk0, hk0'⟩ := HK.out
      go_region_held_law (fun w' => (convert 22 9 (.slice Ax k cx)).run Try.prog w' = .ok (.string bx) w' ∧ (convert 22 9 (.slice Ay m1 cy)).run Try.prog w' = .ok (.string bd) w' ∧
        (convert 22 9 (.slice A0 k c0)).run Try.prog w' = .ok (.string bx) w' ∧ (convert 22 9 (.slice A0 n c0)).run Try.prog w' = .ok (.string bs) w')
        (first | exact GS.out _ (Keeps.refl _ _) | exact GS.out _ (Keeps.refl _ _).drew' | exact GS.out _ ((Keeps.refl _ _).drewN' _))
        (fail)
      all_goals
        go_wp2_with fail
        go_meet
        exact ⟨rfl, Lib.hid (by first | exact Keeps.refl _ _ | exact (Keeps.refl _ _).drew' | exact (Keeps.refl _ _).drewN' _)⟩
    · obtain ⟨hk0, hk0'⟩ := HK.out
      obtain rfl : k = 0 := by omega
      obtain rfl : n = m1 := by have := HM1K.out; omega
      have e7 : IntKind.i64.wrap (n : Int) = (n : Int) := IntWalk.i64_in _ (by omega)
      first | (go_region_held_law (fun w' => (convert 22 9 (.slice Ax 0 cx)).run Try.prog w' = .ok (.string bx) w' ∧ (convert 22 9 (.slice Ay n cy)).run Try.prog w' = .ok (.string bd) w' ∧
        (convert 22 9 (.slice A0 0 c0)).run Try.prog w' = .ok (.string bx) w' ∧ (convert 22 9 (.slice A0 n c0)).run Try.prog w' = .ok (.string bs) w')
        (first | exact GS.out _ (Keeps.refl _ _) | exact GS.out _ (Keeps.refl _ _).drew' | exact GS.out _ ((Keeps.refl _ _).drewN' _))
        (fail)) | fail
      all_goals
        go_wp2_with fail
        go_meet
        exact ⟨rfl, Lib.hid (by first | exact Keeps.refl _ _ | exact (Keeps.refl _ _).drew' | exact (Keeps.refl _ _).drewN' _)⟩
  case rest => as_aux_lemma =>
    obtain ⟨rfl, HKG⟩ := hcut
    have kg := HKG.out
    clear hway
    go_wp2_with fail
    have HDh11 := Lib.hid (HDh10.out.keep0 kg)
    have HDa11 := Lib.hid (HDa10.out.keep0 kg)
    have HDb11 := Lib.hid (HDb10.out.keep0 kg)
    have K11 := Lib.hid (K10.out.trans kg)
    have HH := dput HDh11.out (by omega) c (addI first c) rfl _ _ _ (S.drop c) (HAY.out.keep0 K11.out) (by omega) LD2.out (fun j => Option.or (Option.or ((fun _ => none : Nat → Option UInt8) j) (gFrom S k j)) (gFrom S c j)) P5.out q C5.out
    refine HH.mono ?_
    clear HH
    rintro e w12 ⟨rfl, k12, mh12, hd12, hz12⟩
    have hlh11 := HDh11.out.lt
    have hla11 := HDa11.out.lt
    have hlb11 := HDb11.out.lt
    have hzg := kg.size
    have hz11 := K11.out.size
    have hds := DIS.out
    have HDh12 := Lib.hid hd12
    have HDa12 := Lib.hid (HDa11.out.keep k12 (by simp; omega) (by simp; omega))
    have HDb12 := Lib.hid (HDb11.out.keep k12 (by simp; omega) (by simp; omega))
    have K12 := Lib.hid (((K11.out.mono (T := [h]) (by simp)).trans k12).fresh (T := []) (by intro x hx hlt; simp at hx; omega))
    have hz1112 := k12.size
    have DIS2 := Lib.hid (show (W.heap.size ≤ a ∧ W.heap.size ≤ ma6 ∧ W.heap.size ≤ b ∧ W.heap.size ≤ mb9 ∧ W.heap.size ≤ h ∧ W.heap.size ≤ mh12) ∧ (a ≠ b ∧ a ≠ mb9 ∧ a ≠ h ∧ a ≠ mh12) ∧ (ma6 ≠ b ∧ ma6 ≠ mb9 ∧ ma6 ≠ h ∧ ma6 ≠ mh12) ∧ (b ≠ h ∧ b ≠ mh12 ∧ mb9 ≠ h ∧ mb9 ≠ mh12) by omega)
    clear hd12 k12 K11 HDh11 HDa11 HDb11 hlh11 hla11 hlb11 hzg hz11 hz1112 hds DIS hz12 kg K10 HDh10 HDa10 HDb10 GS s1 s2 s3 s4 hcat hsz hsz' P5 C5 LD2 HAY HKG
    go_wp2_with fail
    have HH := dput HDh12.out (by omega) 0 first F0.out _ _ _ (S.take c) (HUC.out.keep0 K12.out) (by omega) LT2.out _ P6.out r C6.out
    refine HH.mono ?_
    clear HH
    rintro e w13 ⟨rfl, k13, mh13, hd13, hz13⟩
    have hlh12 := HDh12.out.lt
    have hla12 := HDa12.out.lt
    have hlb12 := HDb12.out.lt
    have hz12' := K12.out.size
    have hds := DIS2.out
    have HDh13 := Lib.hid hd13
    have HDa13 := Lib.hid (HDa12.out.keep k13 (by simp; omega) (by simp; omega))
    have HDb13 := Lib.hid (HDb12.out.keep k13 (by simp; omega) (by simp; omega))
    have K13 := Lib.hid (((K12.out.mono (T := [h]) (by simp)).trans k13).fresh (T := []) (by intro x hx hlt; simp at hx; omega))
    have hz1213 := k13.size
    have DIS3 := Lib.hid (show (W.heap.size ≤ a ∧ W.heap.size ≤ ma6 ∧ W.heap.size ≤ b ∧ W.heap.size ≤ mb9 ∧ W.heap.size ≤ h ∧ W.heap.size ≤ mh13) ∧ (a ≠ b ∧ a ≠ mb9 ∧ a ≠ h ∧ a ≠ mh13) ∧ (ma6 ≠ b ∧ ma6 ≠ mb9 ∧ ma6 ≠ h ∧ ma6 ≠ mh13) ∧ (b ≠ h ∧ b ≠ mh13 ∧ mb9 ≠ h ∧ mb9 ≠ mh13) by omega)
    clear hd13 k13 K12 HDh12 HDa12 HDb12 hlh12 hla12 hlb12 hz12' hds DIS2 hz13 hz1213 P6 C6 LT2 HUC F0
    go_wp2_with fail
    have kc : Keeps [] W w13 := K13.out
    obtain ⟨wc, hwc⟩ : ∃ wc, wc = w13 := ⟨_, rfl⟩
    have CUR := Lib.hid (show Keeps [] W w13 from kc)
    have G13 := Lib.hid (fun (Z : World) (kz : Keeps [] W Z) => (show (convert 22 9 (.slice A0 n c0)).run Try.prog Z = .ok (.string bs) Z by rw [← HBS.out]; exact (HA.out.keep0 kz).str0 (P := Try.prog) 22 9 5 Try.underlying22 Try.underlying5 Try.underlying9))
    have T1 := Lib.hid (fun (j : Nat) (_ : 0 ≤ j) (hj : j < n) => (show (Option.or (Option.or (Option.or ((fun _ => none : Nat → Option UInt8) j) (gFrom S k j)) (gFrom S c j)) (gUpto S c j)).isSome = true by rw [half_get, List.getElem?_eq_getElem (by rw [HN.out]; exact hj)]; rfl))
    have T2 := Lib.hid (show Option.or (Option.or (Option.or ((fun _ => none : Nat → Option UInt8) n) (gFrom S k n)) (gFrom S c n)) (gUpto S c n) = none by rw [half_get, List.getElem?_eq_none (by rw [HN.out]; exact Nat.le_refl _)])
    have T3 := Lib.hid (fun (j : Nat) (_ : j < n - 0) => (show S[j]? = Option.or (Option.or (Option.or ((fun _ => none : Nat → Option UInt8) (0 + j)) (gFrom S k (0 + j))) (gFrom S c (0 + j))) (gUpto S c (0 + j)) by rw [half_get, Nat.zero_add]))
    have U1 := Lib.hid (fun (j : Nat) (_ : 0 ≤ j) (hj : j < n) => (show (Option.or (Option.or ((fun _ => none : Nat → Option UInt8) j) (gFrom S k j)) (gUpto S k j)).isSome = true by rw [a_get, List.getElem?_eq_getElem (by rw [HN.out]; exact hj)]; rfl))
    have U2 := Lib.hid (show Option.or (Option.or ((fun _ => none : Nat → Option UInt8) n) (gFrom S k n)) (gUpto S k n) = none by rw [a_get, List.getElem?_eq_none (by rw [HN.out]; exact Nat.le_refl _)])
    have U3 := Lib.hid (fun (j : Nat) (_ : j < n - 0) => (show S[j]? = Option.or (Option.or ((fun _ => none : Nat → Option UInt8) (0 + j)) (gFrom S k (0 + j))) (gUpto S k (0 + j)) by rw [a_get, Nat.zero_add]))
    have HDh := Lib.hid HDh13.out
    have HDa := Lib.hid HDa13.out
    have HDb := Lib.hid HDb13.out
    have HLN := Lib.hid (show S.length = n - 0 by rw [HN.out]; rfl)
    clear kc hwc
    clear wc
    -- R19 BEGIN
    refine wp_region_held_drew (S := fun w' => Keeps [] W w') (by kernel_rfl) ?hS (fun hHeld => ?_)
    case hS => exact CUR.out.drew'
    clear hHeld
    have hHeld := CUR.out.drew'
    have kg : Keeps [] w13 w13.drew := (Keeps.refl [] w13).drew'
    refine wpAnyH_take (i := 0) (oi := _) (v := ?v0) rfl (by kernel_rfl) (by kernel_rfl) (by kernel_rfl) (fun _ _ _ h => h) (Or.inl ⟨by rfl, ?hy0⟩) (by assumption) ?rest0
    case hy0 => (intro w hSw; (try dsimp only at hSw); go_simp; try (with_reducible rfl))
    try simp only [List.getElem_toArray, List.getElem_cons_zero, List.getElem_cons_succ, Act.put, List.setIfInBounds_toArray, List.set_cons_zero, List.set_cons_succ]
    refine wpAnyH_take (i := 1) (oi := _) (v := .bool true) rfl (by kernel_rfl) (by kernel_rfl) (by kernel_rfl) (fun _ _ _ h => h) (Or.inl ⟨by rfl, ?hy1⟩) (by assumption) ?rest1
    case hy1 => (intro w hSw; (try dsimp only at hSw); go_simp; try (with_reducible rfl))
    try simp only [List.getElem_toArray, List.getElem_cons_zero, List.getElem_cons_succ, Act.put, List.setIfInBounds_toArray, List.set_cons_zero, List.set_cons_succ]
    refine wpAnyH_take (i := 2) (oi := _) (v := ?v2) rfl (by kernel_rfl) (by kernel_rfl) (by kernel_rfl) (fun _ _ _ h => h) (Or.inl ⟨by rfl, ?hy2⟩) (by assumption) ?rest2
    case hy2 => (intro w hSw; (try dsimp only at hSw); go_simp; try (with_reducible rfl))
    try simp only [List.getElem_toArray, List.getElem_cons_zero, List.getElem_cons_succ, Act.put, List.setIfInBounds_toArray, List.set_cons_zero, List.set_cons_succ]
    refine wpAnyH_take (i := 3) (oi := _) (v := ?v3) rfl (by kernel_rfl) (by kernel_rfl) (by kernel_rfl) (fun _ _ _ h => h) (Or.inl ⟨by rfl, ?hy3⟩) (by assumption) ?rest3
    case hy3 => (intro w hSw; (try dsimp only at hSw); go_simp; try (with_reducible rfl))
    try simp only [List.getElem_toArray, List.getElem_cons_zero, List.getElem_cons_succ, Act.put, List.setIfInBounds_toArray, List.set_cons_zero, List.set_cons_succ]
    refine wpAnyH_take (i := 4) (oi := _) (v := .bool true) rfl (by kernel_rfl) (by kernel_rfl) (by kernel_rfl) (fun _ _ _ h => h) (Or.inl ⟨by rfl, ?hy4⟩) (by assumption) ?rest4
    case hy4 => (intro w hSw; (try dsimp only at hSw); go_simp; try (with_reducible rfl))
    try simp only [List.getElem_toArray, List.getElem_cons_zero, List.getElem_cons_succ, Act.put, List.setIfInBounds_toArray, List.set_cons_zero, List.set_cons_succ]
    refine wpAnyH_take (i := 5) (oi := _) (v := .bool true) rfl (by kernel_rfl) (by kernel_rfl) (by kernel_rfl) (fun _ _ _ h => h) (Or.inl ⟨by rfl, ?hy5⟩) (by assumption) ?rest5
    case hy5 => (intro w hSw; (try dsimp only at hSw); go_simp; try (with_reducible rfl))
    try simp only [List.getElem_toArray, List.getElem_cons_zero, List.getElem_cons_succ, Act.put, List.setIfInBounds_toArray, List.set_cons_zero, List.set_cons_succ]
    refine wpAnyH_take (i := 6) (oi := _) (v := ?v6) rfl (by kernel_rfl) (by kernel_rfl) (by kernel_rfl) (fun _ _ _ h => h) (Or.inl ⟨by rfl, ?hy6⟩) (by assumption) ?rest6
    case hy6 => (intro w hSw; (try dsimp only at hSw); go_simp; try (with_reducible rfl))
    try simp only [List.getElem_toArray, List.getElem_cons_zero, List.getElem_cons_succ, Act.put, List.setIfInBounds_toArray, List.set_cons_zero, List.set_cons_succ]
    refine wpAnyH_take (i := 7) (oi := _) (v := ?v7) rfl (by kernel_rfl) (by kernel_rfl) (by kernel_rfl) (fun _ _ _ h => h) (Or.inl ⟨by rfl, ?hy7⟩) (by assumption) ?rest7
    case hy7 => (intro w hSw; (try dsimp only at hSw); go_simp; try (with_reducible rfl))
    try simp only [List.getElem_toArray, List.getElem_cons_zero, List.getElem_cons_succ, Act.put, List.setIfInBounds_toArray, List.set_cons_zero, List.set_cons_succ]
    refine wpAnyH_take (i := 8) (oi := _) (v := ?v8) rfl (by kernel_rfl) (by kernel_rfl) (by kernel_rfl) (fun _ _ _ h => h) (Or.inl ⟨by rfl, ?hy8⟩) (by assumption) ?rest8
    case hy8 => (intro w hSw; (try dsimp only at hSw); go_simp; try (with_reducible rfl))
    try simp only [List.getElem_toArray, List.getElem_cons_zero, List.getElem_cons_succ, Act.put, List.setIfInBounds_toArray, List.set_cons_zero, List.set_cons_succ]
    refine wpAnyH_take (i := 9) (oi := _) (v := ?v9) rfl (by kernel_rfl) (by kernel_rfl) (by kernel_rfl) (fun _ _ _ h => h) (Or.inl ⟨by rfl, ?hy9⟩) (by assumption) ?rest9
    case hy9 => (intro w hSw; (try dsimp only at hSw); go_simp; try (with_reducible rfl))
    try simp only [List.getElem_toArray, List.getElem_cons_zero, List.getElem_cons_succ, Act.put, List.setIfInBounds_toArray, List.set_cons_zero, List.set_cons_succ]
    refine wpAnyH_take (i := 10) (oi := _) (v := ?v10) rfl (by kernel_rfl) (by kernel_rfl) (by kernel_rfl) (fun _ _ _ h => h) (Or.inl ⟨by rfl, ?hy10⟩) (by assumption) ?rest10
    case hy10 => (intro w hSw; (try dsimp only at hSw); go_simp; try (with_reducible rfl))
    try simp only [List.getElem_toArray, List.getElem_cons_zero, List.getElem_cons_succ, Act.put, List.setIfInBounds_toArray, List.set_cons_zero, List.set_cons_succ]
    refine wpAnyH_take (i := 11) (oi := _) (v := .bool true) rfl (by kernel_rfl) (by kernel_rfl) (by kernel_rfl) (fun _ _ _ h => h) (Or.inl ⟨by rfl, ?hy11⟩) (by assumption) ?rest11
    case hy11 => (intro w hSw; (try dsimp only at hSw); go_simp; try (with_reducible rfl))
    try simp only [List.getElem_toArray, List.getElem_cons_zero, List.getElem_cons_succ, Act.put, List.setIfInBounds_toArray, List.set_cons_zero, List.set_cons_succ]
    refine wpAnyH_take (i := 12) (oi := _) (v := .bool true) rfl (by kernel_rfl) (by kernel_rfl) (by kernel_rfl) (fun _ _ _ h => h) (Or.inl ⟨by rfl, ?hy12⟩) (by assumption) ?rest12
    case hy12 => (intro w hSw; (try dsimp only at hSw); go_simp; try (with_reducible rfl))
    try simp only [List.getElem_toArray, List.getElem_cons_zero, List.getElem_cons_succ, Act.put, List.setIfInBounds_toArray, List.set_cons_zero, List.set_cons_succ]
    refine wpAnyH_take (i := 13) (oi := _) (v := ?v13) rfl (by kernel_rfl) (by kernel_rfl) (by kernel_rfl) (fun _ _ _ h => h) (Or.inl ⟨by rfl, ?hy13⟩) (by assumption) ?rest13
    case hy13 => (intro w hSw; (try dsimp only at hSw); go_simp; try (with_reducible rfl))
    try simp only [List.getElem_toArray, List.getElem_cons_zero, List.getElem_cons_succ, Act.put, List.setIfInBounds_toArray, List.set_cons_zero, List.set_cons_succ]
    refine wpAnyH_take (i := 14) (oi := _) (v := ?v14) rfl (by kernel_rfl) (by kernel_rfl) (by kernel_rfl) (fun _ _ _ h => h) (Or.inl ⟨by rfl, ?hy14⟩) (by assumption) ?rest14
    case hy14 => (intro w hSw; (try dsimp only at hSw); go_simp; try (with_reducible rfl))
    try simp only [List.getElem_toArray, List.getElem_cons_zero, List.getElem_cons_succ, Act.put, List.setIfInBounds_toArray, List.set_cons_zero, List.set_cons_succ]
    refine wpAnyH_take (i := 17) (oi := _) (v := ?v17) rfl (by kernel_rfl) (by kernel_rfl) (by kernel_rfl) (fun _ _ _ h => h) (Or.inl ⟨by rfl, ?hy17⟩) (by assumption) ?rest17
    case hy17 => (intro w hSw; (try dsimp only at hSw); go_simp; try (with_reducible rfl))
    try simp only [List.getElem_toArray, List.getElem_cons_zero, List.getElem_cons_succ, Act.put, List.setIfInBounds_toArray, List.set_cons_zero, List.set_cons_succ]
    refine wpAnyH_take (i := 18) (oi := _) (v := .string bs) rfl (by kernel_rfl) (by kernel_rfl) (by kernel_rfl) (fun _ _ _ h => h) (Or.inl ⟨by rfl, ?hy18⟩) (by assumption) ?rest18
    case hy18 => (intro w hSw; (try dsimp only at hSw); have hcv := G13.out _ hSw; go_simp; try (with_reducible rfl))
    try simp only [List.getElem_toArray, List.getElem_cons_zero, List.getElem_cons_succ, Act.put, List.setIfInBounds_toArray, List.set_cons_zero, List.set_cons_succ]
    refine wpAnyH_ready (rs := [15]) (by kernel_rfl) (by simp) ?_
    refine AllReadyH.cons (o := _) rfl (fun K hK => ?_) AllReadyH.nil
    simp only [List.getElem_toArray, List.getElem_cons_zero, List.getElem_cons_succ]
    go_simp
    have HH := dtake' (HDh.out.keep0 kg) (R := n) (Nat.zero_le _) T1.out T2.out S HLN.out T3.out n HN.out
    refine HH.mono ?_
    clear HH
    rintro e w14 ⟨Ah, ch, rfl, hx14, hxg14, hd14, k14⟩
    have sx := by have h0 := hx14.str0 (P := Try.prog) 22 9 5 Try.underlying22 Try.underlying5 Try.underlying9; rw [HBS.out] at h0; exact h0
    have hds := DIS3.out
    have hlh13 := HDh.out.lt
    have hla13 := HDa.out.lt
    have hlb13 := HDb.out.lt
    have hzg13 := kg.size
    have hz13' := CUR.out.size
    have HDh14 := Lib.hid hd14
    have HDa14 := Lib.hid ((HDa.out.keep0 kg).keep k14 (by simp; omega) (by simp; omega))
    have HDb14 := Lib.hid ((HDb.out.keep0 kg).keep k14 (by simp; omega) (by simp; omega))
    have CUR14 := Lib.hid ((((CUR.out.trans kg).mono (T := [h, mh13]) (by simp)).trans k14).fresh (T := []) (by intro x hx hlt; simp at hx; omega))
    clear hx14 hxg14 hd14 k14 CUR HDh HDa HDb kg hds hlh13 hla13 hlb13 hzg13 hz13' T1 T2 T3 hHeld
    have CUR := CUR14
    have hHeld := CUR.out
    refine hK.out _ _ (CUR.out) (fun _ => ?_)
    clear hK K
    try simp only [List.getElem_toArray, List.getElem_cons_zero, List.getElem_cons_succ, Act.put, List.setIfInBounds_toArray, List.set_cons_zero, List.set_cons_succ]
    refine wpAnyH_ready (rs := [16]) (by kernel_rfl) (by simp) ?_
    refine AllReadyH.cons (o := _) rfl (fun K hK => ?_) AllReadyH.nil
    simp only [List.getElem_toArray, List.getElem_cons_zero, List.getElem_cons_succ]
    go_simp
    refine hK.out _ _ (CUR.out) (fun _ => ?_)
    clear hK K
    try simp only [List.getElem_toArray, List.getElem_cons_zero, List.getElem_cons_succ, Act.put, List.setIfInBounds_toArray, List.set_cons_zero, List.set_cons_succ]
    clear sx
    refine wpAnyH_take (i := 19) (oi := _) (v := .bool true) rfl (by kernel_rfl) (by kernel_rfl) (by kernel_rfl) (fun _ _ _ h => h) (Or.inl ⟨by rfl, ?hy19⟩) (by assumption) ?rest19
    case hy19 => (intro w hSw; (try dsimp only at hSw); go_simp; try (with_reducible rfl))
    try simp only [List.getElem_toArray, List.getElem_cons_zero, List.getElem_cons_succ, Act.put, List.setIfInBounds_toArray, List.set_cons_zero, List.set_cons_succ]
    refine wpAnyH_take (i := 20) (oi := _) (v := .bool true) rfl (by kernel_rfl) (by kernel_rfl) (by kernel_rfl) (fun _ _ _ h => h) (Or.inl ⟨by rfl, ?hy20⟩) (by assumption) ?rest20
    case hy20 => (intro w hSw; (try dsimp only at hSw); go_simp; try (with_reducible rfl))
    try simp only [List.getElem_toArray, List.getElem_cons_zero, List.getElem_cons_succ, Act.put, List.setIfInBounds_toArray, List.set_cons_zero, List.set_cons_succ]
    refine wpAnyH_take (i := 21) (oi := _) (v := ?v21) rfl (by kernel_rfl) (by kernel_rfl) (by kernel_rfl) (fun _ _ _ h => h) (Or.inl ⟨by rfl, ?hy21⟩) (by assumption) ?rest21
    case hy21 => (intro w hSw; (try dsimp only at hSw); go_simp; try (with_reducible rfl))
    try simp only [List.getElem_toArray, List.getElem_cons_zero, List.getElem_cons_succ, Act.put, List.setIfInBounds_toArray, List.set_cons_zero, List.set_cons_succ]
    refine wpAnyH_take (i := 22) (oi := _) (v := ?v22) rfl (by kernel_rfl) (by kernel_rfl) (by kernel_rfl) (fun _ _ _ h => h) (Or.inl ⟨by rfl, ?hy22⟩) (by assumption) ?rest22
    case hy22 => (intro w hSw; (try dsimp only at hSw); go_simp; try (with_reducible rfl))
    try simp only [List.getElem_toArray, List.getElem_cons_zero, List.getElem_cons_succ, Act.put, List.setIfInBounds_toArray, List.set_cons_zero, List.set_cons_succ]
    refine wpAnyH_take (i := 25) (oi := _) (v := ?v25) rfl (by kernel_rfl) (by kernel_rfl) (by kernel_rfl) (fun _ _ _ h => h) (Or.inl ⟨by rfl, ?hy25⟩) (by assumption) ?rest25
    case hy25 => (intro w hSw; (try dsimp only at hSw); go_simp; try (with_reducible rfl))
    try simp only [List.getElem_toArray, List.getElem_cons_zero, List.getElem_cons_succ, Act.put, List.setIfInBounds_toArray, List.set_cons_zero, List.set_cons_succ]
    refine wpAnyH_take (i := 26) (oi := _) (v := .string bs) rfl (by kernel_rfl) (by kernel_rfl) (by kernel_rfl) (fun _ _ _ h => h) (Or.inl ⟨by rfl, ?hy26⟩) (by assumption) ?rest26
    case hy26 => (intro w hSw; (try dsimp only at hSw); have hcv := G13.out _ hSw; go_simp; try (with_reducible rfl))
    try simp only [List.getElem_toArray, List.getElem_cons_zero, List.getElem_cons_succ, Act.put, List.setIfInBounds_toArray, List.set_cons_zero, List.set_cons_succ]
    refine wpAnyH_ready (rs := [23]) (by kernel_rfl) (by simp) ?_
    refine AllReadyH.cons (o := _) rfl (fun K hK => ?_) AllReadyH.nil
    simp only [List.getElem_toArray, List.getElem_cons_zero, List.getElem_cons_succ]
    go_simp
    have HH := dtake' HDa14.out (R := n) (Nat.zero_le _) U1.out U2.out S HLN.out U3.out n HN.out
    refine HH.mono ?_
    clear HH
    rintro e w15 ⟨Aa, ca, rfl, hx15, hxg15, hd15, k15⟩
    have sx := by have h0 := hx15.str0 (P := Try.prog) 22 9 5 Try.underlying22 Try.underlying5 Try.underlying9; rw [HBS.out] at h0; exact h0
    have hds := DIS3.out
    have hlh13 := HDh14.out.lt
    have hla13 := HDa14.out.lt
    have hlb13 := HDb14.out.lt
    have hz13' := CUR.out.size
    have HDa15 := Lib.hid hd15
    have HDh15 := Lib.hid (HDh14.out.keep k15 (by simp; omega) (by simp; omega))
    have HDb15 := Lib.hid (HDb14.out.keep k15 (by simp; omega) (by simp; omega))
    have CUR15 := Lib.hid (((CUR.out.mono (T := [a, ma6]) (by simp)).trans k15).fresh (T := []) (by intro x hx hlt; simp at hx; omega))
    clear hx15 hxg15 hd15 k15 CUR HDh14 HDa14 HDb14 hds hlh13 hla13 hlb13 hz13' U1 U2 U3 DIS3 HLN hHeld
    have CUR := CUR15
    have hHeld := CUR.out
    refine hK.out _ _ (CUR.out) (fun _ => ?_)
    clear hK K
    try simp only [List.getElem_toArray, List.getElem_cons_zero, List.getElem_cons_succ, Act.put, List.setIfInBounds_toArray, List.set_cons_zero, List.set_cons_succ]
    refine wpAnyH_ready (rs := [24]) (by kernel_rfl) (by simp) ?_
    refine AllReadyH.cons (o := _) rfl (fun K hK => ?_) AllReadyH.nil
    simp only [List.getElem_toArray, List.getElem_cons_zero, List.getElem_cons_succ]
    go_simp
    refine hK.out _ _ (CUR.out) (fun _ => ?_)
    clear hK K
    try simp only [List.getElem_toArray, List.getElem_cons_zero, List.getElem_cons_succ, Act.put, List.setIfInBounds_toArray, List.set_cons_zero, List.set_cons_succ]
    clear sx
    refine wpAnyH_take (i := 27) (oi := _) (v := .bool true) rfl (by kernel_rfl) (by kernel_rfl) (by kernel_rfl) (fun _ _ _ h => h) (Or.inl ⟨by rfl, ?hy27⟩) (by assumption) ?rest27
    case hy27 => (intro w hSw; (try dsimp only at hSw); go_simp; try (with_reducible rfl))
    try simp only [List.getElem_toArray, List.getElem_cons_zero, List.getElem_cons_succ, Act.put, List.setIfInBounds_toArray, List.set_cons_zero, List.set_cons_succ]
    refine wpAnyH_take (i := 28) (oi := _) (v := .bool true) rfl (by kernel_rfl) (by kernel_rfl) (by kernel_rfl) (fun _ _ _ h => h) (Or.inl ⟨by rfl, ?hy28⟩) (by assumption) ?rest28
    case hy28 => (intro w hSw; (try dsimp only at hSw); go_simp; try (with_reducible rfl))
    try simp only [List.getElem_toArray, List.getElem_cons_zero, List.getElem_cons_succ, Act.put, List.setIfInBounds_toArray, List.set_cons_zero, List.set_cons_succ]
    refine wpAnyH_take (i := 29) (oi := _) (v := ?v29) rfl (by kernel_rfl) (by kernel_rfl) (by kernel_rfl) (fun _ _ _ h => h) (Or.inl ⟨by rfl, ?hy29⟩) (by assumption) ?rest29
    case hy29 => (intro w hSw; (try dsimp only at hSw); go_simp; try (with_reducible rfl))
    try simp only [List.getElem_toArray, List.getElem_cons_zero, List.getElem_cons_succ, Act.put, List.setIfInBounds_toArray, List.set_cons_zero, List.set_cons_succ]
    refine wpAnyH_take (i := 30) (oi := _) (v := ?v30) rfl (by kernel_rfl) (by kernel_rfl) (by kernel_rfl) (fun _ _ _ h => h) (Or.inl ⟨by rfl, ?hy30⟩) (by assumption) ?rest30
    case hy30 => (intro w hSw; (try dsimp only at hSw); go_simp; try (with_reducible rfl))
    try simp only [List.getElem_toArray, List.getElem_cons_zero, List.getElem_cons_succ, Act.put, List.setIfInBounds_toArray, List.set_cons_zero, List.set_cons_succ]
    refine wpAnyH_take (i := 32) (oi := _) (v := ?v32) rfl (by kernel_rfl) (by kernel_rfl) (by kernel_rfl) (fun _ _ _ h => h) (Or.inl ⟨by rfl, ?hy32⟩) (by assumption) ?rest32
    case hy32 => (intro w hSw; (try dsimp only at hSw); go_simp; try (with_reducible rfl))
    try simp only [List.getElem_toArray, List.getElem_cons_zero, List.getElem_cons_succ, Act.put, List.setIfInBounds_toArray, List.set_cons_zero, List.set_cons_succ]
    have REL := Lib.hid (Keeps.refl [] w15)
    refine wpAnyH_ready (rs := [31]) (by kernel_rfl) (by simp) ?_
    refine AllReadyH.cons (o := _) rfl (fun K hK => ?_) AllReadyH.nil
    simp only [List.getElem_toArray, List.getElem_cons_zero, List.getElem_cons_succ]
    go_simp
    refine (dnext (HDa15.out.keep0 REL.out)).mono ?_
    rintro e wn1 ⟨rfl, hwn⟩
    have REL := Lib.hid (show Keeps [] w15 wn1 from hwn ▸ REL.out)
    have CUR := Lib.hid (CUR15.out.trans REL.out)
    have hHeld := CUR.out
    clear hwn
    refine hK.out _ _ (CUR.out) (fun _ => ?_)
    clear hK K
    try simp only [List.getElem_toArray, List.getElem_cons_zero, List.getElem_cons_succ, Act.put, List.setIfInBounds_toArray, List.set_cons_zero, List.set_cons_succ]
    refine wpAnyH_ready (rs := [33]) (by kernel_rfl) (by simp) ?_
    refine AllReadyH.cons (o := _) rfl (fun K hK => ?_) AllReadyH.nil
    simp only [List.getElem_toArray, List.getElem_cons_zero, List.getElem_cons_succ]
    go_simp
    refine (dnext (HDb15.out.keep0 REL.out)).mono ?_
    rintro e wn2 ⟨rfl, hwn⟩
    have REL := Lib.hid (show Keeps [] w15 wn2 from hwn ▸ REL.out)
    have CUR := Lib.hid (CUR15.out.trans REL.out)
    have hHeld := CUR.out
    clear hwn
    refine hK.out _ _ (CUR.out) (fun _ => ?_)
    clear hK K
    try simp only [List.getElem_toArray, List.getElem_cons_zero, List.getElem_cons_succ, Act.put, List.setIfInBounds_toArray, List.set_cons_zero, List.set_cons_succ]
    refine wpAnyH_take (i := 34) (oi := _) (v := .bool true) rfl (by kernel_rfl) (by kernel_rfl) (by kernel_rfl) (fun _ _ _ h => h) (Or.inl ⟨by rfl, ?hy34⟩) (by assumption) ?rest34
    case hy34 => (intro w hSw; (try dsimp only at hSw); go_simp; try (with_reducible rfl))
    try simp only [List.getElem_toArray, List.getElem_cons_zero, List.getElem_cons_succ, Act.put, List.setIfInBounds_toArray, List.set_cons_zero, List.set_cons_succ]
    refine wpAnyH_take (i := 35) (oi := _) (v := .bool true) rfl (by kernel_rfl) (by kernel_rfl) (by kernel_rfl) (fun _ _ _ h => h) (Or.inl ⟨by rfl, ?hy35⟩) (by assumption) ?rest35
    case hy35 => (intro w hSw; (try dsimp only at hSw); go_simp; try (with_reducible rfl))
    try simp only [List.getElem_toArray, List.getElem_cons_zero, List.getElem_cons_succ, Act.put, List.setIfInBounds_toArray, List.set_cons_zero, List.set_cons_succ]
    refine wpAnyH_take (i := 36) (oi := _) (v := ?v36) rfl (by kernel_rfl) (by kernel_rfl) (by kernel_rfl) (fun _ _ _ h => h) (Or.inl ⟨by rfl, ?hy36⟩) (by assumption) ?rest36
    case hy36 => (intro w hSw; (try dsimp only at hSw); go_simp; try (with_reducible rfl))
    try simp only [List.getElem_toArray, List.getElem_cons_zero, List.getElem_cons_succ, Act.put, List.setIfInBounds_toArray, List.set_cons_zero, List.set_cons_succ]
    refine wpAnyH_take (i := 37) (oi := _) (v := ?v37) rfl (by kernel_rfl) (by kernel_rfl) (by kernel_rfl) (fun _ _ _ h => h) (Or.inl ⟨by rfl, ?hy37⟩) (by assumption) ?rest37
    case hy37 => (intro w hSw; (try dsimp only at hSw); go_simp; try (with_reducible rfl))
    try simp only [List.getElem_toArray, List.getElem_cons_zero, List.getElem_cons_succ, Act.put, List.setIfInBounds_toArray, List.set_cons_zero, List.set_cons_succ]
    refine wpAnyH_take (i := 39) (oi := _) (v := ?v39) rfl (by kernel_rfl) (by kernel_rfl) (by kernel_rfl) (fun _ _ _ h => h) (Or.inl ⟨by rfl, ?hy39⟩) (by assumption) ?rest39
    case hy39 => (intro w hSw; (try dsimp only at hSw); go_simp; try (with_reducible rfl))
    try simp only [List.getElem_toArray, List.getElem_cons_zero, List.getElem_cons_succ, Act.put, List.setIfInBounds_toArray, List.set_cons_zero, List.set_cons_succ]
    refine wpAnyH_ready (rs := [38]) (by kernel_rfl) (by simp) ?_
    refine AllReadyH.cons (o := _) rfl (fun K hK => ?_) AllReadyH.nil
    simp only [List.getElem_toArray, List.getElem_cons_zero, List.getElem_cons_succ]
    go_simp
    refine (droom (HDa15.out.keep0 REL.out)).mono ?_
    rintro e wn3 ⟨rfl, hwn⟩
    have REL := Lib.hid (REL.out.trans hwn)
    have CUR := Lib.hid (CUR15.out.trans REL.out)
    have hHeld := CUR.out
    clear hwn
    refine hK.out _ _ (CUR.out) (fun _ => ?_)
    clear hK K
    try simp only [List.getElem_toArray, List.getElem_cons_zero, List.getElem_cons_succ, Act.put, List.setIfInBounds_toArray, List.set_cons_zero, List.set_cons_succ]
    refine wpAnyH_ready (rs := [40]) (by kernel_rfl) (by simp) ?_
    refine AllReadyH.cons (o := _) rfl (fun K hK => ?_) AllReadyH.nil
    simp only [List.getElem_toArray, List.getElem_cons_zero, List.getElem_cons_succ]
    go_simp
    refine (droom (HDb15.out.keep0 REL.out)).mono ?_
    rintro e wn4 ⟨rfl, hwn⟩
    have REL := Lib.hid (REL.out.trans hwn)
    have CUR := Lib.hid (CUR15.out.trans REL.out)
    have hHeld := CUR.out
    clear hwn
    refine hK.out _ _ (CUR.out) (fun _ => ?_)
    clear hK K
    try simp only [List.getElem_toArray, List.getElem_cons_zero, List.getElem_cons_succ, Act.put, List.setIfInBounds_toArray, List.set_cons_zero, List.set_cons_succ]
    refine wpAnyH_take (i := 41) (oi := _) (v := .bool true) rfl (by kernel_rfl) (by kernel_rfl) (by kernel_rfl) (fun _ _ _ h => h) (Or.inl ⟨by rfl, ?hy41⟩) (by assumption) ?rest41
    case hy41 => (intro w hSw; (try dsimp only at hSw); go_simp; try (with_reducible rfl))
    try simp only [List.getElem_toArray, List.getElem_cons_zero, List.getElem_cons_succ, Act.put, List.setIfInBounds_toArray, List.set_cons_zero, List.set_cons_succ]
    refine wpAnyH_take (i := 42) (oi := _) (v := .bool true) rfl (by kernel_rfl) (by kernel_rfl) (by kernel_rfl) (fun _ _ _ h => h) (Or.inl ⟨by rfl, ?hy42⟩) (by assumption) ?rest42
    case hy42 => (intro w hSw; (try dsimp only at hSw); go_simp; try (with_reducible rfl))
    try simp only [List.getElem_toArray, List.getElem_cons_zero, List.getElem_cons_succ, Act.put, List.setIfInBounds_toArray, List.set_cons_zero, List.set_cons_succ]
    refine wpAnyH_take (i := 43) (oi := _) (v := ?v43) rfl (by kernel_rfl) (by kernel_rfl) (by kernel_rfl) (fun _ _ _ h => h) (Or.inl ⟨by rfl, ?hy43⟩) (by assumption) ?rest43
    case hy43 => (intro w hSw; (try dsimp only at hSw); go_simp; try (with_reducible rfl))
    try simp only [List.getElem_toArray, List.getElem_cons_zero, List.getElem_cons_succ, Act.put, List.setIfInBounds_toArray, List.set_cons_zero, List.set_cons_succ]
    refine wpAnyH_take (i := 44) (oi := _) (v := ?v44) rfl (by kernel_rfl) (by kernel_rfl) (by kernel_rfl) (fun _ _ _ h => h) (Or.inl ⟨by rfl, ?hy44⟩) (by assumption) ?rest44
    case hy44 => (intro w hSw; (try dsimp only at hSw); go_simp; try (with_reducible rfl))
    try simp only [List.getElem_toArray, List.getElem_cons_zero, List.getElem_cons_succ, Act.put, List.setIfInBounds_toArray, List.set_cons_zero, List.set_cons_succ]
    refine wpAnyH_take (i := 46) (oi := _) (v := ?v46) rfl (by kernel_rfl) (by kernel_rfl) (by kernel_rfl) (fun _ _ _ h => h) (Or.inl ⟨by rfl, ?hy46⟩) (by assumption) ?rest46
    case hy46 => (intro w hSw; (try dsimp only at hSw); go_simp; try (with_reducible rfl))
    try simp only [List.getElem_toArray, List.getElem_cons_zero, List.getElem_cons_succ, Act.put, List.setIfInBounds_toArray, List.set_cons_zero, List.set_cons_succ]
    refine wpAnyH_ready (rs := [45]) (by kernel_rfl) (by simp) ?_
    refine AllReadyH.cons (o := _) rfl (fun K hK => ?_) AllReadyH.nil
    simp only [List.getElem_toArray, List.getElem_cons_zero, List.getElem_cons_succ]
    go_simp
    refine (dnext (HDa15.out.keep0 REL.out)).mono ?_
    rintro e wn5 ⟨rfl, hwn⟩
    have REL := Lib.hid (show Keeps [] w15 wn5 from hwn ▸ REL.out)
    have CUR := Lib.hid (CUR15.out.trans REL.out)
    have hHeld := CUR.out
    clear hwn
    refine hK.out _ _ (CUR.out) (fun _ => ?_)
    clear hK K
    try simp only [List.getElem_toArray, List.getElem_cons_zero, List.getElem_cons_succ, Act.put, List.setIfInBounds_toArray, List.set_cons_zero, List.set_cons_succ]
    refine wpAnyH_ready (rs := [47]) (by kernel_rfl) (by simp) ?_
    refine AllReadyH.cons (o := _) rfl (fun K hK => ?_) AllReadyH.nil
    simp only [List.getElem_toArray, List.getElem_cons_zero, List.getElem_cons_succ]
    go_simp
    refine (dnext (HDh15.out.keep0 REL.out)).mono ?_
    rintro e wn6 ⟨rfl, hwn⟩
    have REL := Lib.hid (show Keeps [] w15 wn6 from hwn ▸ REL.out)
    have CUR := Lib.hid (CUR15.out.trans REL.out)
    have hHeld := CUR.out
    clear hwn
    refine hK.out _ _ (CUR.out) (fun _ => ?_)
    clear hK K
    try simp only [List.getElem_toArray, List.getElem_cons_zero, List.getElem_cons_succ, Act.put, List.setIfInBounds_toArray, List.set_cons_zero, List.set_cons_succ]
    refine wpAnyH_take (i := 48) (oi := _) (v := .bool true) rfl (by kernel_rfl) (by kernel_rfl) (by kernel_rfl) (fun _ _ _ h => h) (Or.inl ⟨by rfl, ?hy48⟩) (by assumption) ?rest48
    case hy48 => (intro w hSw; (try dsimp only at hSw); go_simp; try (with_reducible rfl))
    try simp only [List.getElem_toArray, List.getElem_cons_zero, List.getElem_cons_succ, Act.put, List.setIfInBounds_toArray, List.set_cons_zero, List.set_cons_succ]
    refine wpAnyH_take (i := 49) (oi := _) (v := .bool true) rfl (by kernel_rfl) (by kernel_rfl) (by kernel_rfl) (fun _ _ _ h => h) (Or.inl ⟨by rfl, ?hy49⟩) (by assumption) ?rest49
    case hy49 => (intro w hSw; (try dsimp only at hSw); go_simp; try (with_reducible rfl))
    try simp only [List.getElem_toArray, List.getElem_cons_zero, List.getElem_cons_succ, Act.put, List.setIfInBounds_toArray, List.set_cons_zero, List.set_cons_succ]
    refine wpAnyH_take (i := 50) (oi := _) (v := ?v50) rfl (by kernel_rfl) (by kernel_rfl) (by kernel_rfl) (fun _ _ _ h => h) (Or.inl ⟨by rfl, ?hy50⟩) (by assumption) ?rest50
    case hy50 => (intro w hSw; (try dsimp only at hSw); go_simp; try (with_reducible rfl))
    try simp only [List.getElem_toArray, List.getElem_cons_zero, List.getElem_cons_succ, Act.put, List.setIfInBounds_toArray, List.set_cons_zero, List.set_cons_succ]
    refine wpAnyH_ready (rs := [51]) (by kernel_rfl) (by simp) ?_
    refine AllReadyH.cons (o := _) rfl (fun K hK => ?_) AllReadyH.nil
    simp only [List.getElem_toArray, List.getElem_cons_zero, List.getElem_cons_succ]
    go_simp
    refine (wakes_any _).mono ?_
    rintro e wn7 ⟨rfl, bel⟩
    have CUR := Lib.hid (CUR.out.trans (Below.keeps bel))
    have hHeld := CUR.out
    clear bel
    refine hK.out _ _ (CUR.out) (fun _ => ?_)
    clear hK K
    try simp only [List.getElem_toArray, List.getElem_cons_zero, List.getElem_cons_succ, Act.put, List.setIfInBounds_toArray, List.set_cons_zero, List.set_cons_succ]
    refine wpAnyH_take (i := 52) (oi := _) (v := .bool true) rfl (by kernel_rfl) (by kernel_rfl) (by kernel_rfl) (fun _ _ _ h => h) (Or.inl ⟨by rfl, ?hy52⟩) (by assumption) ?rest52
    case hy52 => (intro w hSw; (try dsimp only at hSw); go_simp; try (with_reducible rfl))
    try simp only [List.getElem_toArray, List.getElem_cons_zero, List.getElem_cons_succ, Act.put, List.setIfInBounds_toArray, List.set_cons_zero, List.set_cons_succ]
    refine wpAnyH_take (i := 53) (oi := _) (v := ?v53) rfl (by kernel_rfl) (by kernel_rfl) (by kernel_rfl) (fun _ _ _ h => h) (Or.inl ⟨by rfl, ?hy53⟩) (by assumption) ?rest53
    case hy53 => (intro w hSw; (try dsimp only at hSw); go_simp; try (with_reducible rfl))
    try simp only [List.getElem_toArray, List.getElem_cons_zero, List.getElem_cons_succ, Act.put, List.setIfInBounds_toArray, List.set_cons_zero, List.set_cons_succ]
    refine wpAnyH_done (by kernel_rfl) ?_ _
    go_wp2_with fail
    try go_ret
    exact ⟨rfl, CUR.out⟩
    -- R19 END

theorem reasmHalves_typed {H : Type} (enc : TypeId × Value → H) (W : World) (base : Nat) {v0 v1 v2 v3 : Value} {d0 d1 d2 d3 : DataW H} {p0 p1 p2 p3 : List MemPlace}
    (o0 : Value.okWide Try.prog W .any base 22 v0) (o1 : Value.okWide Try.prog W .any base 23 v1) (o2 : Value.okWide Try.prog W .any base 24 v2) (o3 : Value.okWide Try.prog W .any base 24 v3)
    (h0 : DataW.Trod enc Try.prog W 0 (fun _ => true) true 22 v0 d0 p0) (h1 : DataW.Trod enc Try.prog W 0 (fun _ => true) true 23 v1 d1 p1) (h2 : DataW.Trod enc Try.prog W 0 (fun _ => true) true 24 v2 d2 p2) (h3 : DataW.Trod enc Try.prog W 0 (fun _ => true) true 24 v3 d3 p3) :
    Calls Try.prog 6 #[v0, v1, v2, v3] W fun e W' => e = .returned (.bool true) ∧ Below W.heap.size W W' := by
  obtain ⟨A, n, c, l, rfl, hb⟩ := open_bytes o0 h0
  obtain ⟨f, rfl, f0, f1⟩ := open_u32 o1 h1
  obtain ⟨r, rfl, r0, r1⟩ := open_u16 o2 h2
  obtain ⟨s, rfl, s0, s1⟩ := open_u16 o3 h3
  exact (halves_walk W f r s ⟨f0, f1⟩ r0 r1 s0 s1 A n c l hb).mono fun e W' ⟨he, k⟩ => ⟨he, k.below (Nat.le_refl _) (by simp)⟩
end Go.Proofs.Ytknlcieceghaiaa
