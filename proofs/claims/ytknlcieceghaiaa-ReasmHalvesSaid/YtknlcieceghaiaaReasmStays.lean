/-
  The walk of the law ReasmStays. Condition: the arguments are in the ranges of their kinds.
-/
import Derived.Test.YtknlcieceghaiaaReasmY
namespace Go.Proofs.Ytknlcieceghaiaa
open Go.RowKit
set_option linter.unusedVariables false
set_option linter.unusedSimpArgs false

/-! ### plain: what two rows of bytes make -/
def mg (a o : List UInt8) (k j : Nat) : Option UInt8 := if k ≤ j ∧ j < a.length then a[j]? else o[j]?
def mR (a o : List UInt8) (k : Nat) : Nat := if o.length < k then o.length else max a.length o.length
def ml (a o : List UInt8) (k : Nat) : List UInt8 := (List.range (mR a o k)).map fun j => (mg a o k j).getD 0
theorem ml_len (a o : List UInt8) (k : Nat) : (ml a o k).length = mR a o k := by simp [ml]
theorem mg_some {a o : List UInt8} {k : Nat} (hk : k ≤ a.length) {j : Nat} (h : j < mR a o k) : ∃ x, mg a o k j = some x ∧ (ml a o k)[j]? = some x := by
  have : ∃ x, mg a o k j = some x := by
    unfold mR at h
    unfold mg
    split
    · rename_i h1; exact ⟨_, List.getElem?_eq_getElem h1.2⟩
    · rename_i h1
      refine ⟨_, List.getElem?_eq_getElem ?_⟩
      split at h
      · exact h
      · omega
  obtain ⟨x, hx⟩ := this
  refine ⟨x, hx, ?_⟩
  unfold ml
  rw [List.getElem?_map, List.getElem?_range h, Option.map_some, hx]; rfl
theorem mg_end {a o : List UInt8} {k : Nat} (hk : k ≤ a.length) : mg a o k (mR a o k) = none := by
  rcases Nat.lt_or_ge o.length k with h | h
  · have e : mR a o k = o.length := if_pos h
    rw [e]; unfold mg
    rw [if_neg (by omega), List.getElem?_eq_none (Nat.le_refl _)]
  · have e : mR a o k = max a.length o.length := if_neg (by omega)
    rw [e]; unfold mg
    rw [if_neg (by omega), List.getElem?_eq_none (by omega)]
theorem mg_g (M : Nat) (hM : M = 700) (a o : List UInt8) (k : Nat) (hk : k ≤ a.length) (ho : o.length ≤ 300) (j : Nat) : mg a o k j = Option.or (if k ≤ j ∧ j < a.length then a[j]? else none) (if max 0 0 ≤ j ∧ j < min (0 + o.length) M then o[j - 0]? else none) := by
  unfold mg
  split
  · rename_i h
    rw [List.getElem?_eq_getElem h.2]; rfl
  · simp only [Option.none_or]
    split
    · rfl
    · rename_i h
      rw [List.getElem?_eq_none (by omega)]
theorem mg_1 (M : Nat) (hM : M = 700) (a : List UInt8) (k : Nat) (hk : k ≤ a.length) (ha : a.length ≤ 300) (j : Nat) : (fun j => if k ≤ j ∧ j < a.length then a[j]? else none) j = Option.or ((fun _ => none : Nat → Option UInt8) j) (if max k 0 ≤ j ∧ j < min (k + (a.drop k).length) M then (a.drop k)[j - k]? else none) := by
  simp only [List.length_drop, Option.none_or]
  by_cases h : k ≤ j ∧ j < a.length
  · rw [if_pos h, if_pos (by omega), List.getElem?_drop, show k + (j - k) = j by omega]
  · rw [if_neg h, if_neg (by omega)]
theorem cnt_first (M : Nat) (hM : M = 700) (n k la : Nat) (hn : k + n = la) (ha : la ≤ 300) : cntF M (fun j => decide (max k 0 ≤ j) && decide (j < min (k + n) M) && !((none : Option UInt8)).isSome) = n := by
  have e : cntF M (fun j => decide (max k 0 ≤ j) && decide (j < min (k + n) M) && !((none : Option UInt8)).isSome) = cntF M (fun j => decide (k ≤ j) && decide (j < la)) := by
    refine cntF_congr fun i _ => ?_
    have h1 : max k 0 = k := by omega
    have h2 : min (k + n) M = la := by omega
    rw [h1, h2]; simp
  rw [e, cntF_iv _ _ _ (by omega)]; omega
theorem cnt_second (M : Nat) (hM : M = 700) (a o : List UInt8) (k : Nat) (hk : k ≤ a.length) (ha : a.length ≤ 300) (ho : o.length ≤ 300) :
    cntF M (fun j => decide (max 0 0 ≤ j) && decide (j < min (0 + o.length) M) && !(if k ≤ j ∧ j < a.length then a[j]? else none).isSome) = min o.length k + (o.length - a.length) := by
  have e : cntF M (fun j => decide (max 0 0 ≤ j) && decide (j < min (0 + o.length) M) && !(if k ≤ j ∧ j < a.length then a[j]? else none).isSome) = cntF M (fun j => (decide (0 ≤ j) && decide (j < min o.length k)) || (decide (a.length ≤ j) && decide (j < max a.length o.length))) := by
    refine cntF_congr fun i _ => ?_
    have h2 : min (0 + o.length) M = o.length := by omega
    rw [h2]
    rw [Bool.eq_iff_iff]
    by_cases h : k ≤ i ∧ i < a.length
    · rw [if_pos h, List.getElem?_eq_getElem h.2]
      simp; omega
    · rw [if_neg h]
      simp; omega
  rw [e, cntF_or, cntF_iv _ _ _ (by omega), cntF_iv _ _ _ (by omega)]
  · omega
  · intro i _ h
    simp at h ⊢
    omega

theorem BytesV.from {w : World} {A : Option Addr} {n c : Nat} {l : List UInt8} (h : BytesV w (.slice A n c) l) {k : Nat} (hk : k ≤ n) : BytesV w (.slice (Option.map (fun x : Addr => x.add k) A) (n - k) (c - k)) (l.drop k) := by
  obtain ⟨h1, h2, h3⟩ := h.form
  subst h1
  refine ⟨Option.map (fun x : Addr => x.add k) A, c - k, by rw [List.length_drop], by rw [List.length_drop]; omega, by omega, fun hp => ?_⟩
  rw [List.length_drop] at hp
  obtain ⟨g, o, rfl, hc⟩ := h.get (by omega)
  refine ⟨g, o + k, by simp [addr_add], fun i x hx => ?_⟩
  rw [List.getElem?_drop] at hx
  have := hc _ _ hx
  rw [show o + k + i = o + (k + i) by omega]
  exact this
theorem BytesV.fromX {w : World} {A X : Option Addr} {n c : Nat} {l : List UInt8} (h : BytesV w (.slice A n c) l) {k : Nat} (hk : k ≤ n) (hX : (if c = k then A else Option.map (fun x : Addr => x.add k) A) = X) : BytesV w (.slice X (n - k) (c - k)) (l.drop k) := by
  subst hX
  split
  · rename_i hc
    obtain ⟨h1, h2, h3⟩ := h.form
    have e1 : n - k = 0 := by omega
    have e2 : l.drop k = [] := List.drop_eq_nil_of_le (by omega)
    rw [e1, e2]
    exact BytesV.empty _ (by omega)
  · exact h.from hk
theorem BytesV.upto {w : World} {A : Option Addr} {n c : Nat} {l : List UInt8} (h : BytesV w (.slice A n c) l) {k : Nat} (hk : k ≤ n) : BytesV w (.slice A k c) (l.take k) := by
  obtain ⟨h1, h2, h3⟩ := h.form
  subst h1
  have hlt : (l.take k).length = k := by rw [List.length_take, Nat.min_eq_left hk]
  refine ⟨A, c, by rw [hlt], by rw [hlt]; omega, by omega, fun hp => ?_⟩
  rw [hlt] at hp
  obtain ⟨g, o, rfl, hc⟩ := h.get (by omega)
  refine ⟨g, o, rfl, fun i x hx => ?_⟩
  rw [List.getElem?_take] at hx
  split at hx
  · exact hc i x hx
  · cases hx
theorem BytesV.one (w : World) (x : UInt8) (t : TypeId) : BytesV (w.alloc (.cells #[.int .u8 (x.toNat : Int)] t)) (.slice (some ⟨w.heap.size, 0, none⟩) 1 1) [x] := by
  refine ⟨_, 1, rfl, by simp, by simp [maxLen], fun _ => ⟨_, _, rfl, fun i y hy => ?_⟩⟩
  have hi : i = 0 := by have := (List.getElem?_eq_some_iff.1 hy).1; simp at this; exact this
  subst hi
  simp at hy
  subst hy
  have := heap_alloc_new w (.cells #[u8V x] t)
  exact cell_of_block (z := (0, 0)) this 0

set_option maxRecDepth 100000 in
set_option maxHeartbeats 2000000 in
theorem stays_walk (W : World) (first at0 : Int) (u0 : U32 first) (r0 : 0 ≤ at0) (r1 : at0 ≤ 65535) (A0 : Option Addr) (n0 c0 : Nat) (l0 : List UInt8) (hb : BytesV W (.slice A0 n0 c0) l0) (A1 : Option Addr) (n1 c1 : Nat) (l1 : List UInt8) (hb1 : BytesV W (.slice A1 n1 c1) l1) :
    Calls Try.prog 5 #[.slice A0 n0 c0, .slice A1 n1 c1, .int .u32 first, .int .u16 at0] W fun e w' => e = .returned (.bool true) ∧ Keeps [] W w' := by
  obtain ⟨hn0, hn1, hn2⟩ := hb.form
  subst hn0
  obtain ⟨hm0, hm1, hm2⟩ := hb1.form
  subst hm0
  obtain ⟨a, ha⟩ : ∃ a, a = l0.take 300 := ⟨_, rfl⟩
  obtain ⟨o, ho⟩ : ∃ o, o = l1.take 300 := ⟨_, rfl⟩
  obtain ⟨la, hla⟩ : ∃ n, a.length = n := ⟨_, rfl⟩
  obtain ⟨lo, hlo⟩ : ∃ n, o.length = n := ⟨_, rfl⟩
  have hSa : min (l0.length : Int) 300 = la := by rw [← hla, ha]; simp; omega
  have hSo : min (l1.length : Int) 300 = lo := by rw [← hlo, ho]; simp; omega
  have ha3 : la ≤ 300 := by rw [← hla, ha]; simp; omega
  have ho3 : lo ≤ 300 := by rw [← hlo, ho]; simp; omega
  have hac : la ≤ c0 := by rw [← hla, ha]; simp; omega
  have hoc : lo ≤ c1 := by rw [← hlo, ho]; simp; omega
  have hac' : (la : Int) ≤ c0 := by omega
  have hoc' : (lo : Int) ≤ c1 := by omega
  have ha0' : (0 : Int) ≤ la := by omega
  have ho0' : (0 : Int) ≤ lo := by omega
  have hba : BytesV W (.slice A0 la c0) a := by
    have h1 : la ≤ l0.length := by rw [← hla, ha]; simp; omega
    have := hb.upto h1
    rw [show l0.take la = a by rw [← hla, ha]; simp [List.take_eq_take_iff]] at this
    exact this
  have hbo : BytesV W (.slice A1 lo c1) o := by
    have h1 : lo ≤ l1.length := by rw [← hlo, ho]; simp; omega
    have := hb1.upto h1
    rw [show l1.take lo = o by rw [← hlo, ho]; simp [List.take_eq_take_iff]] at this
    exact this
  obtain ⟨k, hk⟩ : ∃ k : Nat, at0 % ((la : Int) + 1) = k := ⟨(at0 % ((la : Int) + 1)).toNat, by have := Int.emod_nonneg at0 (show (la : Int) + 1 ≠ 0 by omega); omega⟩
  have hkl : k ≤ la := by have := Int.emod_lt_of_pos at0 (show (0 : Int) < (la : Int) + 1 by omega); omega
  have hkl' : (k : Int) ≤ la := by omega
  have hkc' : (k : Int) ≤ c0 := by omega
  obtain ⟨M, hM⟩ : ∃ M : Nat, M = 700 := ⟨_, rfl⟩
  obtain ⟨m1, hm1'⟩ : ∃ m1 : Nat, m1 = la - k := ⟨_, rfl⟩
  have e1 : (la : Int) - k = m1 := by omega
  have e2 : IntKind.i64.wrap ((la : Int) - k) = m1 := by rw [e1]; exact IntWalk.i64_in _ (by omega)
  obtain ⟨q1, hq1⟩ : ∃ q1 : Nat, q1 = min lo k := ⟨_, rfl⟩
  obtain ⟨q2, hq2⟩ : ∃ q2 : Nat, q2 = lo - la := ⟨_, rfl⟩
  have e3 : min (lo : Int) k = q1 := by omega
  have e4 : max (la : Int) k = la := by omega
  have e5 : IntKind.i64.wrap ((lo : Int) - la) = (lo : Int) - la := IntWalk.i64_in _ (by omega)
  have e6 : max 0 ((lo : Int) - la) = q2 := by omega
  have e7 : IntKind.i64.wrap ((q1 : Int) + q2) = (q1 : Int) + q2 := IntWalk.i64_in _ (by omega)
  obtain ⟨X, hX⟩ : ∃ X, (if c0 = k then A0 else Option.map (fun x : Addr => x.add k) A0) = X := ⟨_, rfl⟩
  have HAX := Lib.hid (hba.fromX hkl hX)
  have HA := Lib.hid hba
  have HO := Lib.hid hbo
  have HLA := Lib.hid hla
  have HLO := Lib.hid hlo
  have HQ1 := Lib.hid hq1
  have HQ2 := Lib.hid hq2
  have HM1 := Lib.hid hm1'
  clear hb hb1 ha ho hba hbo hla hlo hq1 hq2 hm1'
  go_enter Try.func5, Try.ntmps5
  go_wp2_with fail
  go_region_held3 (fun _ => True) (trivial) (fail)
  all_goals
    go_wp2_with fail
    refine (dnew _ first u0 M 700 (by omega) (by omega)).mono ?_
    rintro e w1 ⟨b, mb, rfl, hd1, k1, hbs, hms⟩
    have hbs : W.heap.size ≤ b := hbs
    have hms : W.heap.size ≤ mb := hms
    have HD := Lib.hid hd1
    have K1 := Lib.hid ((Keeps.drew [] W).trans k1)
    clear hd1 k1
    go_wp2_with fail
    have hdl : (a.drop k).length = m1 := by have := HLA.out; have := HM1.out; rw [List.length_drop]; omega
    have hdl2 : (a.drop k).length ≤ 20000 := by rw [hdl]; have := HM1.out; omega
    have ff1 := mg_1 M hM a k (by have := HLA.out; omega) (by have := HLA.out; omega)
    have ff2 := cnt_first M hM (a.drop k).length k la (by have := HM1.out; omega) ha3
    rw [hdl] at ff2
    have ff3 : cntF M (fun j => decide (max k 0 ≤ j) && decide (j < min (k + (a.drop k).length) M) && !((fun _ => none : Nat → Option UInt8) j).isSome) = m1 := by rw [hdl]; exact ff2
    have FF1 := Lib.hid ff1
    have FF2 := Lib.hid ff3
    have HD1 := Lib.hid hdl2
    clear ff1 ff2 ff3 hdl hdl2
    have HH := dput (frm := k) (data := a.drop k) HD.out (by omega) (addI first k) rfl _ _ _ (HAX.out.keep0 K1.out) (by omega) HD1.out (fun j => if k ≤ j ∧ j < a.length then a[j]? else none) FF1.out m1 FF2.out
    refine HH.mono ?_
    clear HH FF1 FF2 HD1
    rintro e w2 ⟨rfl, k2, mb2, hd2, hz2⟩
    have hz1 := K1.out.size
    have kp2 : Keeps [] W w2 := ((K1.out.mono (T := [b]) (by simp)).trans k2).fresh (by intro x hx hlt; simp at hx; omega)
    have HD2 := Lib.hid hd2
    have K2 := Lib.hid kp2
    clear hd2 k2 kp2 HD K1
    go_wp2_with fail
    have f0 : first = addI first ((0 : Nat) : Int) := by unfold addI; have := u0.1; have := u0.2; omega
    have ff1 := mg_g M hM a o k (by have := HLA.out; omega) (by have := HLO.out; omega)
    have ff2 := ((cnt_second M hM a o k (by have := HLA.out; omega) (by have := HLA.out; omega) (by have := HLO.out; omega)).trans (show min o.length k + (o.length - a.length) = q1 + q2 by have := HLA.out; have := HLO.out; have := HQ1.out; have := HQ2.out; omega))
    have F0 := Lib.hid f0
    have FF1 := Lib.hid ff1
    have FF2 := Lib.hid ff2
    clear f0 ff1 ff2
    have ol3 : o.length ≤ 20000 := by have := HLO.out; omega
    have HH := dput (frm := 0) (data := o) HD2.out (by omega) first F0.out A1 lo c1 (HO.out.keep0 K2.out) (by omega) ol3 (mg a o k) FF1.out (q1 + q2) FF2.out
    refine HH.mono ?_
    rintro e w3 ⟨rfl, k3, mb3, hd3, hz3⟩
    have hz22 := K2.out.size
    have kp3 : Keeps [] W w3 := ((K2.out.mono (T := [b]) (by simp)).trans k3).fresh (by intro x hx hlt; simp at hx; omega)
    have e8 : ((q1 + q2 : Nat) : Int) = (q1 : Int) + q2 := by omega
    have HD3 := Lib.hid hd3
    have K3 := Lib.hid kp3
    clear hd3 k3 kp3 HD2 K2
    go_wp2_with fail
    refine (dcopy HD3.out).mono ?_
    rintro e w4 ⟨b4, mb4, rfl, hd4, k4, hz4, hz5⟩
    have hl3 := HD3.out.lt
    have hz33 := K3.out.size
    have HD4 := Lib.hid hd4
    have HD5 := Lib.hid (HD3.out.keep0 k4)
    have K4 := Lib.hid (K3.out.trans k4)
    clear hd4 k4 HD3 K3
    have hka : k ≤ a.length := by have := HLA.out; omega
    have HSM := Lib.hid (fun (j : Nat) (hj : j < mR a o k) => mg_some (o := o) hka hj)
    have HEN := Lib.hid (mg_end (o := o) hka)
    have HML := Lib.hid (ml_len a o k)
    clear hka
    go_wp2_with fail
    refine (dtake HD5.out (R := mR a o k) (by omega) (fun j _ hj => by obtain ⟨x, hx, _⟩ := HSM.out j hj; rw [hx]; rfl) HEN.out (ml a o k) HML.out (fun i hi => by obtain ⟨x, hx, hx2⟩ := HSM.out i hi; rw [hx2]; simp [hx])).mono ?_
    rintro e w5 ⟨Ax, cx, rfl, hx, hxg, _, k5⟩
    have hl5 := HD5.out.lt
    have hl4 := HD4.out.lt
    have hz44 := K4.out.size
    have kp5 : Keeps [] W w5 := ((K4.out.mono (T := [b, mb3]) (by simp)).trans k5).fresh (by intro x hx hlt; simp at hx; omega)
    have HD6 := Lib.hid (HD4.out.keep k5 (by simp; omega) (by simp; omega))
    have K5 := Lib.hid kp5
    have HX := Lib.hid hx
    have HXG := Lib.hid hxg
    have hz45 := k5.size
    clear hx hxg k5 kp5 HD5 HD4 K4
    go_wp2_with fail
    refine (dtake HD6.out (R := mR a o k) (by omega) (fun j _ hj => by obtain ⟨x, hx, _⟩ := HSM.out j hj; rw [hx]; rfl) HEN.out (ml a o k) HML.out (fun i hi => by obtain ⟨x, hx, hx2⟩ := HSM.out i hi; rw [hx2]; simp [hx])).mono ?_
    rintro e w6 ⟨Ay, cy, rfl, hy, hyg, _, k6⟩
    have hz55 := K5.out.size
    have kp6 : Keeps [] W w6 := ((K5.out.mono (T := [b4, mb4]) (by simp)).trans k6).fresh (by intro x hx hlt; simp at hx; omega)
    have HX6 := Lib.hid (HX.out.keepS k6 (fun _ g og n c e => by
      injection e with e1
      have := HXG.out g og e1
      simp; omega))
    have HY6 := Lib.hid hy
    have K6 := Lib.hid kp6
    clear hy hyg k6 kp6 HD6 K5 HX HXG
    obtain ⟨z, hzl⟩ : ∃ z, (ml a o k).length = z := ⟨_, rfl⟩
    have hzR : mR a o k = z := by rw [← HML.out]; exact hzl
    have hz6 : z ≤ 300 := by rw [← hzR]; have := HLA.out; have := HLO.out; unfold mR; split <;> omega
    rw [hzl] at HX6 HY6 ⊢
    have HZL := Lib.hid hzl
    have HZR := Lib.hid hzR
    clear hzl hzR
    go_wp2_with fail
    go_loopw [20, 21] (fun ov iv wr => ∃ i : Nat, iv = .int .i64 i ∧ i ≤ z ∧ wr.ownsRow w6.heap.size 5 1 ov i (((ml a o k).take i).map u8V) ∧ Keeps [] w6 wr) (fun _ iv _ => 700 - (intOf iv).toNat)
    case atStart => exact ⟨0, rfl, by omega, World.ownsRow_nil _ _ _ _, Keeps.refl _ _⟩
    case round =>
      obtain ⟨i, rfl, hi, hown, hkp⟩ := hrel
      have HOWN := Lib.hid hown
      have KP := Lib.hid hkp
      clear hown hkp
      have hzw := KP.out.size
      have STEP := Lib.hid (fun (h : i < z) => (by
        obtain ⟨x, h1, h2⟩ := HSM.out i (by rw [HZR.out]; exact h)
        refine ⟨x, h1, ?_⟩
        rw [List.take_add_one, h2]; rfl : ∃ x, mg a o k i = some x ∧ (ml a o k).take (i + 1) = (ml a o k).take i ++ [x]))
      have hmR := HZR.out
      have hmla := HLA.out
      have hmlo := HLO.out
      have hcase : (i < lo ∨ (k ≤ i ∧ i < la)) ↔ i < z := by
        unfold mR at hmR
        rw [hmla, hmlo] at hmR
        split at hmR <;> omega
      clear hmR hmla hmlo
      by_cases hA : k ≤ i ∧ i < la
      · obtain ⟨x, hx, htk⟩ := STEP.out (hcase.1 (.inr hA))
        have hax : a[i]? = some x := by
          unfold mg at hx
          rw [if_pos ⟨hA.1, by rw [HLA.out]; exact hA.2⟩] at hx
          exact hx
        have hiz := hcase.1 (.inr hA)
        obtain ⟨hA1, hA2⟩ := hA
        have hA1' : (k : Int) ≤ i := by omega
        have hA2' : (i : Int) < la := by omega
        obtain ⟨g, og, hAe, hc⟩ := HA.out.get (by omega)
        subst hAe
        have hcell : wr.cell? ⟨g, og + i, none⟩ = some (.int .u8 (x.toNat : Int)) := cell_keeps KP.out (cell_keeps K6.out (hc i x hax) (by simp)) (by simp)
        clear hc hax hx
        have hown1 := own_keeps HOWN.out (Keeps.alloc [] wr (.cells #[.int .u8 (x.toNat : Int)] 5))
        have HOW1 := Lib.hid hown1
        clear hown1
        by_cases h1 : i < lo
        · have h1' : (i : Int) < lo := by omega
          go_wp2_with (at_builtin; refine wpList_append_bytes rfl _ _ w6.heap.size 22 5 rfl Try.underlying22 Try.infoU8 u20 i ((ml a o k).take i) rfl HOW1.out _ [x] rfl (BytesV.one _ x _) (by simp; omega) (by simp; omega) ?_)
          intro v8 w8 hown8 hg8 hat8 _
          have kp8 : Keeps [] w6 w8 := Keeps.own (KP.out.alloc' _) hg8 (fun j hj => (HOWN.out.lt j hj).1)
          have HOWN8 := Lib.hid (show w8.ownsRow w6.heap.size 5 1 v8 (i + 1) (((ml a o k).take (i + 1)).map u8V) by rw [htk]; simpa using hown8)
          clear hown8 hg8 hat8
          go_wp2_with fail
          exact ⟨⟨i + 1, by simp, by omega, HOWN8.out, kp8⟩, by simp [intOf]; omega⟩
        · have h1' : ¬ (i : Int) < lo := by omega
          go_wp2_with (at_builtin; refine wpList_append_bytes rfl _ _ w6.heap.size 22 5 rfl Try.underlying22 Try.infoU8 u20 i ((ml a o k).take i) rfl HOW1.out _ [x] rfl (BytesV.one _ x _) (by simp; omega) (by simp; omega) ?_)
          intro v8 w8 hown8 hg8 hat8 _
          have kp8 : Keeps [] w6 w8 := Keeps.own (KP.out.alloc' _) hg8 (fun j hj => (HOWN.out.lt j hj).1)
          have HOWN8 := Lib.hid (show w8.ownsRow w6.heap.size 5 1 v8 (i + 1) (((ml a o k).take (i + 1)).map u8V) by rw [htk]; simpa using hown8)
          clear hown8 hg8 hat8
          go_wp2_with fail
          exact ⟨⟨i + 1, by simp, by omega, HOWN8.out, kp8⟩, by simp [intOf]; omega⟩
      · by_cases hB : i < lo
        · obtain ⟨x, hx, htk⟩ := STEP.out (hcase.1 (.inl hB))
          have hax : o[i]? = some x := by
            unfold mg at hx
            rw [if_neg (fun h => hA ⟨h.1, by rw [← HLA.out]; exact h.2⟩)] at hx
            exact hx
          have hiz := hcase.1 (.inl hB)
          have hB' : (i : Int) < lo := by omega
          obtain ⟨g, og, hAe, hc⟩ := HO.out.get (by omega)
          subst hAe
          have hcell : wr.cell? ⟨g, og + i, none⟩ = some (.int .u8 (x.toNat : Int)) := cell_keeps KP.out (cell_keeps K6.out (hc i x hax) (by simp)) (by simp)
          clear hc hax hx
          have hown1 := own_keeps HOWN.out (Keeps.alloc [] wr (.cells #[.int .u8 (x.toNat : Int)] 5))
          have HOW1 := Lib.hid hown1
          clear hown1
          by_cases h1 : k ≤ i
          · have h1' : (k : Int) ≤ i := by omega
            have h2' : ¬ (i : Int) < la := by omega
            go_wp2_with (at_builtin; refine wpList_append_bytes rfl _ _ w6.heap.size 22 5 rfl Try.underlying22 Try.infoU8 u20 i ((ml a o k).take i) rfl HOW1.out _ [x] rfl (BytesV.one _ x _) (by simp; omega) (by simp; omega) ?_)
            intro v8 w8 hown8 hg8 hat8 _
            have kp8 : Keeps [] w6 w8 := Keeps.own (KP.out.alloc' _) hg8 (fun j hj => (HOWN.out.lt j hj).1)
            have HOWN8 := Lib.hid (show w8.ownsRow w6.heap.size 5 1 v8 (i + 1) (((ml a o k).take (i + 1)).map u8V) by rw [htk]; simpa using hown8)
            clear hown8 hg8 hat8
            go_wp2_with fail
            exact ⟨⟨i + 1, by simp, by omega, HOWN8.out, kp8⟩, by simp [intOf]; omega⟩
          · have h1' : ¬ (k : Int) ≤ i := by omega
            go_wp2_with (at_builtin; refine wpList_append_bytes rfl _ _ w6.heap.size 22 5 rfl Try.underlying22 Try.infoU8 u20 i ((ml a o k).take i) rfl HOW1.out _ [x] rfl (BytesV.one _ x _) (by simp; omega) (by simp; omega) ?_)
            intro v8 w8 hown8 hg8 hat8 _
            have kp8 : Keeps [] w6 w8 := Keeps.own (KP.out.alloc' _) hg8 (fun j hj => (HOWN.out.lt j hj).1)
            have HOWN8 := Lib.hid (show w8.ownsRow w6.heap.size 5 1 v8 (i + 1) (((ml a o k).take (i + 1)).map u8V) by rw [htk]; simpa using hown8)
            clear hown8 hg8 hat8
            go_wp2_with fail
            exact ⟨⟨i + 1, by simp, by omega, HOWN8.out, kp8⟩, by simp [intOf]; omega⟩
        · have hiz : i = z := by
            by_cases h : i < z
            · have := hcase.2 h; omega
            · omega
          subst hiz
          have hB' : ¬ (i : Int) < lo := by omega
          obtain ⟨Aa, ca, rfl⟩ := own_slice HOWN.out
          have hal : (ml a o k).take i = ml a o k := List.take_of_length_le (by rw [HZL.out]; omega)
          have ha1 := BytesV.of_own HOWN.out
          rw [hal] at ha1
          have s1 := (HX6.out.keep0 KP.out).str0 (P := Try.prog) 22 9 5 Try.underlying22 Try.underlying5 Try.underlying9
          have s2 := (HY6.out.keep0 KP.out).str0 (P := Try.prog) 22 9 5 Try.underlying22 Try.underlying5 Try.underlying9
          have s3 := ha1.str0 (P := Try.prog) 22 9 5 Try.underlying22 Try.underlying5 Try.underlying9
          clear ha1 hal STEP hcase
          by_cases h1 : i < la
          · have h1' : (i : Int) < la := by omega
            have h2' : ¬ (k : Int) ≤ i := by omega
            go_wp2_with fail
            refine (wakes_any _).mono ?_
            rintro e w10 ⟨rfl, bel⟩
            go_wp2_with fail
            go_ret
            exact ⟨rfl, (K6.out.trans KP.out).trans (Below.keeps bel)⟩
          · have h1' : ¬ (i : Int) < la := by omega
            go_wp2_with fail
            refine (wakes_any _).mono ?_
            rintro e w10 ⟨rfl, bel⟩
            go_wp2_with fail
            go_ret
            exact ⟨rfl, (K6.out.trans KP.out).trans (Below.keeps bel)⟩

theorem reasmStays_typed {H : Type} (enc : TypeId × Value → H) (W : World) (base : Nat) {v0 v1 v2 v3 : Value} {d0 d1 d2 d3 : DataW H} {p0 p1 p2 p3 : List MemPlace}
    (o0 : Value.okWide Try.prog W .any base 22 v0) (o1 : Value.okWide Try.prog W .any base 22 v1) (o2 : Value.okWide Try.prog W .any base 23 v2) (o3 : Value.okWide Try.prog W .any base 24 v3)
    (h0 : DataW.Trod enc Try.prog W 0 (fun _ => true) true 22 v0 d0 p0) (h1 : DataW.Trod enc Try.prog W 0 (fun _ => true) true 22 v1 d1 p1) (h2 : DataW.Trod enc Try.prog W 0 (fun _ => true) true 23 v2 d2 p2) (h3 : DataW.Trod enc Try.prog W 0 (fun _ => true) true 24 v3 d3 p3) :
    Calls Try.prog 5 #[v0, v1, v2, v3] W fun e W' => e = .returned (.bool true) ∧ Below W.heap.size W W' := by
  obtain ⟨A, n, c, l, rfl, hb⟩ := open_bytes o0 h0
  obtain ⟨A1, n1, c1, l1, rfl, hb1⟩ := open_bytes o1 h1
  obtain ⟨f, rfl, f0, f1⟩ := open_u32 o2 h2
  obtain ⟨r, rfl, r0, r1⟩ := open_u16 o3 h3
  exact (stays_walk W f r ⟨f0, f1⟩ r0 r1 A n c l hb A1 n1 c1 l1 hb1).mono fun e W' ⟨he, k⟩ => ⟨he, k.below (Nat.le_refl _) (by simp)⟩
end Go.Proofs.Ytknlcieceghaiaa
