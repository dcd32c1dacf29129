/-
  The iterator of a name's rules' names: what it yields, in which order. Condition: the name is no longer than 253 bytes.
-/
import Derived.RangeFuncNested
import Derived.RangeFuncBound
import Derived.RangeFuncCalls
import Derived.RangeFuncLeaves
import Derived.RangeFuncFrom
import Derived.Shelf.Abstract
import Derived.Shelf.RegionOpen
import Derived.WalkKit
import Derived.OwnWalkIn
import Derived.TacticsInMore
import Derived.LoopNIn
import Derived.LoopIn
import Derived.Test.YtbmkdnkiojapbaaDoorPolN
namespace Go.Proofs.YtbmkdnkiojapbaaDoor
open Go.RowKit Go.Lib Go.Shelf
set_option linter.unusedVariables false
set_option linter.unusedSimpArgs false
attribute [local go_sem] Oper.semAt_some

/-- '*.' and what stands behind place j -/
def suffB (h : ByteArray) (j : Nat) : ByteArray := (⟨#[42, 46]⟩ : ByteArray) ++ h.extract (j + 1) h.size
/-- the names that a rule may have, up to place i -/
def upB (h : ByteArray) : Nat → List ByteArray
  | 0 => if h.toList.isEmpty then [] else [h]
  | i + 1 => upB h i ++ (if h.data.toList[i]? = some 46 then [suffB h i] else [])
def namesB (h : ByteArray) : List ByteArray := upB h h.size ++ [⟨#[]⟩]
theorem upB_prefix (h : ByteArray) (i j : Nat) (hij : i ≤ j) : upB h i <+: upB h j := by
  induction j with
  | zero =>
    obtain rfl : i = 0 := by omega
    exact List.prefix_refl _
  | succ j ih =>
    rcases Nat.lt_or_ge i (j + 1) with h1 | h1
    · exact (ih (by omega)).trans (List.prefix_append _ _)
    · obtain rfl : i = j + 1 := by omega
      exact List.prefix_refl _
theorem upB_names (h : ByteArray) (i : Nat) (hi : i ≤ h.size) : upB h i <+: namesB h := (upB_prefix h i _ hi).trans (List.prefix_append _ _)
theorem lt_of_upB {h : ByteArray} {i : Nat} (hi : i ≤ h.size) : (upB h i).length < (namesB h).length := by
  have := (upB_prefix h i _ hi).length_le
  unfold namesB
  simp
  omega

set_option maxRecDepth 100000 in
set_option maxHeartbeats 4000000 in
theorem names1_in (F : Fence) (n : Nat) (h53 : F.fn 53) (hro : F.round = none) (hn : 1 ≤ n) (l hb n₀ : Nat) (h : ByteArray) (hs : h.size ≤ 1000) (hlt : hb < n₀) (J Jx : List ByteArray → World → Prop)
    (hY : ∀ pre x W, J pre W → pre.length < (namesB h).length → YieldAt F (n - 1) Tryd.prog l #[.string x] W fun e W' =>
      (e = .returned (.bool true) ∧ J (pre ++ [x]) W' ∧ Below n₀ W W') ∨ (e = .returned (.bool false) ∧ Jx (pre ++ [x]) W'))
    (W : World) (hc : W.cell? ⟨hb, 0, none⟩ = some (.string h)) (h0 : J [] W) :
    CallsIn F n Tryd.prog 53 #[.func (.yield l) #[] #[], .pointer (some ⟨hb, 0, none⟩)] W fun e W' => (∃ v, e = .returned v) ∧
      ((∃ ys, ys = namesB h ∧ J ys W') ∨ (∃ pre, pre <+: namesB h ∧ Jx pre W')) := by
  refine callsIn_of_wp Tryd.func53 rfl h53 ?_ hro
  simp only [Tryd.ntmps53, List.size_toArray, List.length_cons, List.length_nil, Nat.reduceAdd, Nat.reduceSub, Array.replicate_succ, Array.replicate_zero, List.push_toArray, List.append_toArray, List.nil_append, List.cons_append]
  have hd : h.data.toList.length = h.size := (size_eq h).symm
  have hway : (h.toList.isEmpty = true ∧ J (upB h 0) W) ∨ (h.toList.isEmpty = false ∧ upB h 0 = [h]) := by
    by_cases hE : h.toList.isEmpty = true
    · exact .inl ⟨hE, by unfold upB; rw [if_pos hE]; exact h0⟩
    · exact .inr ⟨by simpa using hE, by unfold upB; rw [if_neg hE]⟩
  have HD := Lib.hid hd
  clear hd
  rcases hway with ⟨hE, hJ0⟩ | ⟨hE, hu0⟩
  · gi_wp2
    refine ⟨fun _ h => (by cases h), ?_⟩
    gi_wp2
    gi_loopw [14] (fun iv wr => ∃ i : Nat, i ≤ h.size ∧ iv = .int .i64 i ∧ J (upB h i) wr ∧ Below n₀ W wr) (fun iv _ => h.size - (intOf iv).toNat)
    case atStart => exact ⟨0, Nat.zero_le _, rfl, hJ0, Below.refl _ _⟩
    case round =>
      obtain ⟨i, hi, rfl, hJs, hnx⟩ := hrel
      have hcx : wr.cell? ⟨hb, 0, none⟩ = some (.string h) := (hnx.cell (p := ⟨hb, 0, none⟩) hlt).trans hc
      by_cases hlt2 : i < h.size
      · have hlt3 : (i : Int) < (h.size : Int) := by omega
        obtain ⟨x, hx⟩ : ∃ x : UInt8, h[i] = x := ⟨_, rfl⟩
        have hxl : h.data.toList[i]? = some x := by rw [← hx]; exact Lib.data_getElem? h i hlt2
        by_cases h46 : x = 46
        · subst h46
          have hup : upB h (i + 1) = upB h i ++ [suffB h i] := by rw [upB, if_pos hxl]
          obtain ⟨sx, hsx⟩ : ∃ sx, h.extract (i + 1) h.size = sx := ⟨_, rfl⟩
          obtain ⟨fn, tmps, assign, body, hy, hR⟩ := hY (upB h i) (suffB h i) wr hJs (lt_of_upB hi)
          unfold suffB at hy
          rw [hsx] at hy
          have HUP := Lib.hid hup
          have HXL := Lib.hid hxl
          have hsz : sx.size ≤ 1000 := by rw [← hsx]; simp; omega
          clear hup hxl
          gi_wp2
          refine hR.mono ?_
          rintro e W4 (⟨rfl, hJ4, hk4⟩ | ⟨rfl, hJx4⟩)
          · gi_wp2
            go_roundw
            case rel => exact ⟨i + 1, by omega, by simp, by rw [HUP.out]; exact hJ4, hnx.trans hk4⟩
            case measure => simp [intOf]; omega
          · gi_wp2
            refine bodyPost_ret (results_none rfl _ _ _) rfl ?_
            exact ⟨⟨_, rfl⟩, .inr ⟨upB h (i + 1), upB_names h (i + 1) (by omega), by rw [HUP.out]; exact hJx4⟩⟩
        · have hx46 : ¬ (x.toNat : Int) = 46 := by
            intro e
            apply h46
            apply UInt8.toNat_inj.1
            have : x.toNat = 46 := by omega
            rw [this]; rfl
          have hup : upB h (i + 1) = upB h i := by
            rw [upB, if_neg (by rw [hxl]; intro e; injection e with e; exact h46 e), List.append_nil]
          have HUP := Lib.hid hup
          clear hup hxl h46
          gi_wp2
          refine ⟨fun _ h => (by cases h), ?_⟩
          gi_wp2
          go_roundw
          case rel => exact ⟨i + 1, by omega, by simp, by rw [HUP.out]; exact hJs, hnx⟩
          case measure => simp [intOf]; omega
      · obtain rfl : i = h.size := by omega
        have hlt3 : ¬ (h.size : Int) < (h.size : Int) := by omega
        obtain ⟨fn, tmps, assign, body, hy, hR⟩ := hY (upB h h.size) ⟨#[]⟩ wr hJs (lt_of_upB hi)
        gi_wp2
        refine hR.mono ?_
        rintro e W4 (⟨rfl, hJ4, hk4⟩ | ⟨rfl, hJx4⟩)
        · gi_wp2
          go_end0
          exact ⟨⟨_, rfl⟩, .inl ⟨_, rfl, hJ4⟩⟩
        · gi_wp2
          go_end0
          exact ⟨⟨_, rfl⟩, .inr ⟨namesB h, List.prefix_refl _, hJx4⟩⟩
  · have H0 := Lib.hid hu0
    obtain ⟨fn, tmps, assign, body, hy, hR⟩ := hY [] h W h0 (by unfold namesB; simp)
    gi_wp2
    refine hR.mono ?_
    rintro e W3 (⟨rfl, hJ3, hk3⟩ | ⟨rfl, hJx3⟩)
    · have hJ0 : J (upB h 0) W3 := by rw [H0.out]; exact hJ3
      have hc3 : W3.cell? ⟨hb, 0, none⟩ = some (.string h) := (hk3.cell (p := ⟨hb, 0, none⟩) hlt).trans hc
      clear hu0
      gi_wp2
      gi_loopw [14] (fun iv wr => ∃ i : Nat, i ≤ h.size ∧ iv = .int .i64 i ∧ J (upB h i) wr ∧ Below n₀ W wr) (fun iv _ => h.size - (intOf iv).toNat)
      case atStart => exact ⟨0, Nat.zero_le _, rfl, hJ0, hk3⟩
      case round =>
        obtain ⟨i, hi, rfl, hJs, hnx⟩ := hrel
        have hcx : wr.cell? ⟨hb, 0, none⟩ = some (.string h) := (hnx.cell (p := ⟨hb, 0, none⟩) hlt).trans hc
        by_cases hlt2 : i < h.size
        · have hlt3 : (i : Int) < (h.size : Int) := by omega
          obtain ⟨x, hx⟩ : ∃ x : UInt8, h[i] = x := ⟨_, rfl⟩
          have hxl : h.data.toList[i]? = some x := by rw [← hx]; exact Lib.data_getElem? h i hlt2
          by_cases h46 : x = 46
          · subst h46
            have hup : upB h (i + 1) = upB h i ++ [suffB h i] := by rw [upB, if_pos hxl]
            obtain ⟨sx, hsx⟩ : ∃ sx, h.extract (i + 1) h.size = sx := ⟨_, rfl⟩
            obtain ⟨fn, tmps, assign, body, hy, hR⟩ := hY (upB h i) (suffB h i) wr hJs (lt_of_upB hi)
            unfold suffB at hy
            rw [hsx] at hy
            have HUP := Lib.hid hup
            have HXL := Lib.hid hxl
            have hsz : sx.size ≤ 1000 := by rw [← hsx]; simp; omega
            clear hup hxl
            gi_wp2
            refine hR.mono ?_
            rintro e W4 (⟨rfl, hJ4, hk4⟩ | ⟨rfl, hJx4⟩)
            · gi_wp2
              go_roundw
              case rel => exact ⟨i + 1, by omega, by simp, by rw [HUP.out]; exact hJ4, hnx.trans hk4⟩
              case measure => simp [intOf]; omega
            · gi_wp2
              refine bodyPost_ret (results_none rfl _ _ _) rfl ?_
              exact ⟨⟨_, rfl⟩, .inr ⟨upB h (i + 1), upB_names h (i + 1) (by omega), by rw [HUP.out]; exact hJx4⟩⟩
          · have hx46 : ¬ (x.toNat : Int) = 46 := by
              intro e
              apply h46
              apply UInt8.toNat_inj.1
              have : x.toNat = 46 := by omega
              rw [this]; rfl
            have hup : upB h (i + 1) = upB h i := by
              rw [upB, if_neg (by rw [hxl]; intro e; injection e with e; exact h46 e), List.append_nil]
            have HUP := Lib.hid hup
            clear hup hxl h46
            gi_wp2
            refine ⟨fun _ h => (by cases h), ?_⟩
            gi_wp2
            go_roundw
            case rel => exact ⟨i + 1, by omega, by simp, by rw [HUP.out]; exact hJs, hnx⟩
            case measure => simp [intOf]; omega
        · obtain rfl : i = h.size := by omega
          have hlt3 : ¬ (h.size : Int) < (h.size : Int) := by omega
          obtain ⟨fn, tmps, assign, body, hy, hR⟩ := hY (upB h h.size) ⟨#[]⟩ wr hJs (lt_of_upB hi)
          gi_wp2
          refine hR.mono ?_
          rintro e W4 (⟨rfl, hJ4, hk4⟩ | ⟨rfl, hJx4⟩)
          · gi_wp2
            go_end0
            exact ⟨⟨_, rfl⟩, .inl ⟨_, rfl, hJ4⟩⟩
          · gi_wp2
            go_end0
            exact ⟨⟨_, rfl⟩, .inr ⟨namesB h, List.prefix_refl _, hJx4⟩⟩
    · gi_wp2
      refine bodyPost_ret (results_none rfl _ _ _) rfl ?_
      exact ⟨⟨_, rfl⟩, .inr ⟨[h], by rw [← H0.out]; exact upB_names h 0 (Nat.zero_le _), hJx3⟩⟩
theorem names1_stops (F : Fence) (n : Nat) (h53 : F.fn 53) (hro : F.round = none) (hn : 1 ≤ n) (hb n₀ : Nat) (h : ByteArray) (hs : h.size ≤ 1000) (w : World) (hlt : hb < n₀) (hlw : hb < w.heap.size) (hc : w.cell? ⟨hb, 0, none⟩ = some (.string h)) :
    SeqStopsK F n Tryd.prog 53 #[.pointer (some ⟨hb, 0, none⟩)] (fun x : ByteArray => #[Value.string x]) (Below n₀) (fun ys => ys = namesB h) (fun pre => pre <+: namesB h) (namesB h).length w := fun l J Jx W hW _ _ hY h0 =>
  names1_in F n h53 hro hn l hb n₀ h hs hlt J Jx hY W ((hW.cell (p := ⟨hb, 0, none⟩) hlw).trans hc) h0
end Go.Proofs.YtbmkdnkiojapbaaDoor
