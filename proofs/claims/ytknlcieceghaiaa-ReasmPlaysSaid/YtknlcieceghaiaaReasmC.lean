/-
  The walks of the document's row of places (2): Take, Same. Condition: at most 16384 places.
-/
import Derived.Test.YtknlcieceghaiaaReasmB
import Derived.DeepKeys
namespace Go.Proofs.Ytknlcieceghaiaa
open Go.RowKit
set_option linter.unusedVariables false
set_option linter.unusedSimpArgs false

def StopC (p : Prop) : Prop := p
theorem stop_c {p : Prop} (h : StopC p) : p := h
/-! ### Take -/
def RB.take (r : RB) : RB := ⟨addI r.at_ r.ready, r.len - r.ready, fun k => r.g (r.ready + k), fun k => r.y (r.ready + k)⟩
def RB.out (r : RB) : List UInt8 := r.by_.take r.ready
theorem range_drop {α : Type} (f : Nat → α) (n k : Nat) : ((List.range n).map f).drop k = (List.range (n - k)).map fun i => f (k + i) := by
  apply List.ext_getElem?
  intro i
  rw [List.getElem?_drop, List.getElem?_map, List.getElem?_map]
  by_cases h : k + i < n
  · rw [List.getElem?_range h, List.getElem?_range (by omega)]; rfl
  · rw [List.getElem?_eq_none (by simpa using by omega), List.getElem?_eq_none (by simpa using by omega)]; rfl
theorem RB.take_is (r : RB) : r.take.is = r.is.drop r.ready := (range_drop r.g r.len r.ready).symm
theorem RB.take_by (r : RB) : r.take.by_ = r.by_.drop r.ready := (range_drop r.y r.len r.ready).symm
theorem RB.take_ok {r : RB} (ok : r.ok) : r.take.ok := ⟨addI_bd _ _, by have := ok.len; unfold RB.take; simp only; omega⟩
theorem RbAt.row2 {w : World} {q : Nat} {J : List Nat} {r : RB} {v1 v2 : Value} (h : RbAt w q J r v1 v2) : RowJ u8V w J v2 r.by_ := h.by_
set_option maxRecDepth 100000 in
set_option maxHeartbeats 8000000 in
theorem rtake_any {w : World} {q : Nat} {J : List Nat} {r : RB} {v1 v2 : Value} (h : RbAt w q J r v1 v2) (ok : r.ok) (hq : q ∉ J) :
    Calls Try.prog 18 #[.pointer (some ⟨q, 0, none⟩)] w fun e w' => ∃ v v1' v2', e = .returned v ∧ BytesV w' v r.out ∧ RbAt w' q J r.take v1' v2' ∧ Keeps [q] w w' := by
  have HRD := Lib.hid (rready_any h ok)
  obtain ⟨hR1, _, _⟩ := ready_spec r
  obtain ⟨R, hR⟩ : ∃ R, r.ready = R := ⟨_, rfl⟩
  obtain ⟨n, hn⟩ : ∃ n, r.len = n := ⟨_, rfl⟩
  rw [hR] at HRD
  rw [hR, hn] at hR1
  have hln := ok.len
  rw [hn] at hln
  obtain ⟨A1, c1, hv1⟩ := h.form1
  obtain ⟨A2, c2, hv2⟩ := h.form2
  rw [hn] at hv1 hv2
  subst hv1 hv2
  obtain ⟨at_, hat⟩ : ∃ a, r.at_ = a := ⟨_, rfl⟩
  obtain ⟨X1, hX1⟩ : ∃ X, (if c1 = R then A1 else Option.map (fun x : Addr => x.add R) A1) = X := ⟨_, rfl⟩
  obtain ⟨X2, hX2⟩ : ∃ X, (if c2 = R then A2 else Option.map (fun x : Addr => x.add R) A2) = X := ⟨_, rfl⟩
  have f1 := h.is.form
  have f2 := h.by_.form
  have d0 := h.c0
  have d1 := h.c1
  have d2 := h.c2
  rw [hat] at d0
  have HCUT := Lib.hid (show RowJ u8V w J (.slice A2 R c2) r.out by unfold RB.out; rw [hR]; exact h.by_.cut hR1)
  have HX1 := Lib.hid (show RowJ Value.bool w J (.slice X1 (n - R) (c1 - R)) r.take.is by rw [r.take_is, hR]; exact h.is.fromX hR1 hX1)
  have HX2 := Lib.hid (show RowJ u8V w J (.slice X2 (n - R) (c2 - R)) r.take.by_ by rw [r.take_by, hR]; exact h.by_.fromX hR1 hX2)
  have HOL := Lib.hid (show r.out.length ≤ 16384 by unfold RB.out; rw [List.length_take, r.by_len]; omega)
  have e0 : (0 : Int) ≤ (R : Int) := by omega
  have e1 : (R : Int) ≤ (n : Int) := by omega
  have e2 : (R : Int) ≤ (c1 : Int) := by omega
  have e3 : (R : Int) ≤ (c2 : Int) := by omega
  have e4 : (n : Int) ≤ (c1 : Int) := by omega
  have e5 : (n : Int) ≤ (c2 : Int) := by omega
  have x1 : IntKind.u32.wrap (R : Int) = (R : Int) := by simp [IntKind.wrap, IntKind.signed, IntKind.bits]; omega
  have x2 : IntKind.u32.wrap (at_ + (R : Int)) = addI at_ R := by simp [IntKind.wrap, IntKind.signed, IntKind.bits, addI]
  have HB := Lib.hid h
  have HAT := Lib.hid hat
  have HT := Lib.hid (show r.take.at_ = addI at_ R from by rw [← hat, ← hR]; rfl)
  have HQ := Lib.hid hq
  clear h ok hR hn hat f1 f2 hq
  go_enter Try.func18, Try.ntmps18
  go_wp2_with fail
  refine HRD.out.mono ?_
  rintro e w1 ⟨rfl, hw1⟩
  obtain rfl := hw1.symm
  clear HRD hw1
  go_wp2_with (at_builtin; apply stop_c)
  unfold StopC
  refine app_row (enc := u8V) rfl _ _ 22 5 (.int .u8 0) rfl Try.underlying22 Try.infoU8 rfl (fun _ => rfl) rfl _ J r.out rfl HCUT.out (by have := HOL.out; omega) ?_
  intro v3 w2 hv3 hk2
  have HOUT := Lib.hid (show ∃ J3 : List Nat, (∀ y ∈ J3, w.heap.size ≤ y) ∧ RowJ u8V w2 J3 v3 r.out from by
    rcases hv3 with ⟨rfl, he⟩ | ⟨g, cap, rfl, hg, hm⟩
    · exact ⟨[], by simp, by rw [he]; exact ⟨none, 0, rfl, Nat.le_refl _, by simp [maxLen], fun h => by simp at h⟩⟩
    · exact ⟨[g], by simpa using hg, hm.row⟩)
  have HK2 := Lib.hid hk2
  have hh2 : w2.heap[q]? = some (.cells #[.int .u32 at_, .slice A1 n c1, .slice A2 n c2] 49 (0, 0)) := by
    have := (HB.out.keep0 hk2).head
    rw [HAT.out] at this
    exact this
  have hh3 : (w2.setCell ⟨q, 0, none⟩ (.int .u32 (addI at_ R))).heap[q]? = some (.cells #[.int .u32 (addI at_ R), .slice A1 n c1, .slice A2 n c2] 49 (0, 0)) := heap_setCell_self hh2 0 _
  have hh4 : ((w2.setCell ⟨q, 0, none⟩ (.int .u32 (addI at_ R))).setCell ⟨q, 1, none⟩ (.slice X1 (n - R) (c1 - R))).heap[q]? = some (.cells #[.int .u32 (addI at_ R), .slice X1 (n - R) (c1 - R), .slice A2 n c2] 49 (0, 0)) := heap_setCell_self hh3 1 _
  have hh5 : (((w2.setCell ⟨q, 0, none⟩ (.int .u32 (addI at_ R))).setCell ⟨q, 1, none⟩ (.slice X1 (n - R) (c1 - R))).setCell ⟨q, 2, none⟩ (.slice X2 (n - R) (c2 - R))).heap[q]? = some (.cells #[.int .u32 (addI at_ R), .slice X1 (n - R) (c1 - R), .slice X2 (n - R) (c2 - R)] 49 (0, 0)) := heap_setCell_self hh4 2 _
  have k5 : Keeps [q] w2 (((w2.setCell ⟨q, 0, none⟩ (.int .u32 (addI at_ R))).setCell ⟨q, 1, none⟩ (.slice X1 (n - R) (c1 - R))).setCell ⟨q, 2, none⟩ (.slice X2 (n - R) (c2 - R))) := ((Keeps.setCell w2 ⟨q, 0, none⟩ _).trans (Keeps.setCell (w2.setCell ⟨q, 0, none⟩ (.int .u32 (addI at_ R))) ⟨q, 1, none⟩ _)).trans (Keeps.setCell _ ⟨q, 2, none⟩ _)
  have HH5 := Lib.hid hh5
  have HK5 := Lib.hid k5
  have s0 : w2.cell? ⟨q, 0, none⟩ = some (.int .u32 at_) := cell_of_block hh2 0
  have z0 : w2.frozen? ⟨q, 0, none⟩ = false := free_of_block hh2 0
  have s1 : (w2.setCell ⟨q, 0, none⟩ (.int .u32 (addI at_ R))).cell? ⟨q, 1, none⟩ = some (.slice A1 n c1) := cell_of_block hh3 1
  have z1 : (w2.setCell ⟨q, 0, none⟩ (.int .u32 (addI at_ R))).frozen? ⟨q, 1, none⟩ = false := free_of_block hh3 1
  have s2 : ((w2.setCell ⟨q, 0, none⟩ (.int .u32 (addI at_ R))).setCell ⟨q, 1, none⟩ (.slice X1 (n - R) (c1 - R))).cell? ⟨q, 2, none⟩ = some (.slice A2 n c2) := cell_of_block hh4 2
  have z2 : ((w2.setCell ⟨q, 0, none⟩ (.int .u32 (addI at_ R))).setCell ⟨q, 1, none⟩ (.slice X1 (n - R) (c1 - R))).frozen? ⟨q, 2, none⟩ = false := free_of_block hh4 2
  clear hv3 hk2 hh2 hh3 hh4 hh5 k5 d0 d1 d2
  go_wp2_with fail
  go_ret
  have hqS : q < w.heap.size := lt_of_block HB.out.head
  obtain ⟨J3, hJ3, hrow3⟩ := HOUT.out
  have kk := (HK2.out.mono (T := [q]) (by simp)).trans HK5.out
  have hJ : ∀ y ∈ J, y ∉ [q] := fun y hy hm => HQ.out (by rw [← List.mem_singleton.1 hm]; exact hy)
  exact ⟨v3, _, _, rfl, (hrow3.keep HK5.out (fun y hy => by have := hJ3 y hy; simp; omega)).bytes, ⟨by rw [HT.out]; exact HH5.out, HX1.out.keep kk hJ, HX2.out.keep kk hJ⟩, kk⟩

/-! ### Same -/
theorem encH_at {L : List (Int × Int)} {i : Nat} {x : Int × Int} (h : L[i]? = some x) : (encH L)[i * 2]? = some (.int .u32 x.1) ∧ (encH L)[i * 2 + 1]? = some (.int .u32 x.2) := by
  induction L generalizing i with
  | nil => simp at h
  | cons y L ih =>
    cases i with
    | zero => simp at h; subst h; exact ⟨rfl, rfl⟩
    | succ i =>
      have := ih (i := i) (by simpa using h)
      have e1 : (i + 1) * 2 = i * 2 + 1 + 1 := by omega
      have e2 : (i + 1) * 2 + 1 = i * 2 + 1 + 1 + 1 := by omega
      rw [e1]
      exact ⟨this.1, this.2⟩
theorem pair_at {w : World} {B n : Nat} {v : Value} {L : List (Int × Int)} (h : w.ownsRow B 68 2 v n (encH L)) {i : Nat} {x : Int × Int} (hx : L[i]? = some x) : ∃ g c, v = .slice (some ⟨g, 0, none⟩) n c ∧ w.cell? ⟨g, i * 2, none⟩ = some (.int .u32 x.1) ∧ w.cell? ⟨g, i * 2 + 1, none⟩ = some (.int .u32 x.2) := by
  have hl := h.1
  have hil : i < L.length := (List.getElem?_eq_some_iff.1 hx).1
  have hL : (encH L).length = L.length * 2 := by
    clear hx hil hl h
    induction L with
    | nil => rfl
    | cons y L ih => simp [encH] at ih ⊢; omega
  rcases h.2 with ⟨rfl, h0⟩ | ⟨g, cap, cur, rfl, hb, hg, hnc, hm, hs, ht⟩
  · omega
  · obtain ⟨a1, a2⟩ := encH_at hx
    refine ⟨g, cap, rfl, ?_, ?_⟩
    · rw [cell_of_block hg]
      have h1 : (cur.toList.take (n * 2))[i * 2]? = (encH L)[i * 2]? := by rw [ht]
      rw [List.getElem?_take, if_pos (by omega), a1, Array.getElem?_toList] at h1
      exact h1
    · rw [cell_of_block hg]
      have h1 : (cur.toList.take (n * 2))[i * 2 + 1]? = (encH L)[i * 2 + 1]? := by rw [ht]
      rw [List.getElem?_take, if_pos (by omega), a2, Array.getElem?_toList] at h1
      exact h1
theorem own_form {w : World} {B e n sz : Nat} {v : Value} {xs : List Value} (h : w.ownsRow B e sz v n xs) : ∃ A c, v = .slice A n c := own_slice h
theorem Try.keyA : Try.prog.keyTypeAt 2 68 = true := by kernel_rfl
theorem Try.cellsA : Try.prog.cellsOf 68 = 2 := by kernel_rfl
theorem Try.cellsU : Try.prog.cellsOf 23 = 1 := by kernel_rfl
theorem wf_u32 {y : Int} (h : U32 y) : (Lit.int .u32 y).wf = true := by
  obtain ⟨h0, h1⟩ := h
  have e1 : IntKind.u32.min = 0 := rfl
  have e2 : IntKind.u32.max = 4294967295 := rfl
  simp [Lit.wf, e1, e2]
  omega
set_option maxRecDepth 100000 in
theorem lits_pair {y1 y2 : Int} (h1 : U32 y1) (h2 : U32 y2) : Try.prog.keyLits 5 68 [.int .u32 y1, .int .u32 y2] = some [.int .u32 y1, .int .u32 y2] := by
  have e1 : ∀ y, U32 y → Try.prog.keyLits 4 23 [.int .u32 y] = some [.int .u32 y] := fun y h => by
    unfold Program.keyLits
    rw [Try.underlying23]
    simp [wf_u32 h]
  unfold Program.keyLits
  rw [Try.underlying68]
  simp [Try.cellsA, Try.cellsU, List.range, List.range.loop, e1 y1 h1, e1 y2 h2]
set_option maxRecDepth 100000 in
theorem eq_pair {y1 y2 : Int} (g1 : U32 y1) (g2 : U32 y2) (W : World) : (Op.equalIn 10000 68 (.agg #[.int .u32 y1, .int .u32 y2]) (.agg #[.int .u32 y1, .int .u32 y2])).run Try.prog W = .ok true W := by
  obtain ⟨r, h1, h2⟩ := run_equalIn_deep (P := Try.prog) 9998 2 68 Try.keyA W 5 5 (.agg #[.int .u32 y1, .int .u32 y2]) (.agg #[.int .u32 y1, .int .u32 y2]) [.int .u32 y1, .int .u32 y2] [.int .u32 y1, .int .u32 y2] (by kernel_rfl) (by kernel_rfl) (lits_pair g1 g2) (lits_pair g1 g2)
  rw [h1, h2.2 rfl]
set_option maxRecDepth 100000 in
set_option maxHeartbeats 8000000 in
theorem rsame_any {w : World} {B1 B2 : Nat} {va vb : Value} {L : List (Int × Int)} (h1 : w.ownsRow B1 68 2 va L.length (encH L)) (h2 : w.ownsRow B2 68 2 vb L.length (encH L)) (hn : L.length ≤ 16384) (hu : ∀ x ∈ L, U32 x.1 ∧ U32 x.2) :
    Calls Try.prog 21 #[va, vb] w fun e w' => e = .returned (.bool true) ∧ Keeps [] w w' := by
  obtain ⟨A1, c1, rfl⟩ := own_form h1
  obtain ⟨A2, c2, rfl⟩ := own_form h2
  have H1 := Lib.hid h1
  have H2 := Lib.hid h2
  obtain ⟨n, hL⟩ : ∃ n, L.length = n := ⟨_, rfl⟩
  rw [hL] at H1 H2 hn ⊢
  have HN := Lib.hid hL
  have HU := Lib.hid hu
  clear h1 h2 hL hu
  go_enter Try.func21, Try.ntmps21
  go_wp2_with fail
  go_loopg [5] (n + 1) (fun gk iv wx => ∃ i : Nat, iv = .int .i64 i ∧ i ≤ n ∧ gk = n + 1 - i ∧ Hid (Keeps [] w wx))
  case atStart => exact ⟨0, rfl, Nat.zero_le _, rfl, Lib.hid (Keeps.refl _ _)⟩
  case round =>
    obtain ⟨i, rfl, hi, hg, HK⟩ := hrel
    subst hg
    rcases Nat.lt_or_ge i n with hlt | hge
    · have hltI : (i : Int) < (n : Int) := by omega
      have hi0 : (0 : Int) ≤ (i : Int) := by omega
      obtain ⟨x, hx⟩ : ∃ x, L[i]? = some x := ⟨_, List.getElem?_eq_getElem (by have := HN.out; omega)⟩
      obtain ⟨g1, k1, hv1, p1, p2⟩ := pair_at H1.out hx
      obtain ⟨g2, k2, hv2, r1, r2⟩ := pair_at H2.out hx
      injection hv1 with hA1 _ hc1
      injection hv2 with hA2 _ hc2
      subst hA1 hA2 hc1 hc2
      have hxu := HU.out x (List.mem_of_getElem? hx)
      obtain ⟨y1, y2⟩ := x
      have heq := fun (W : World) => eq_pair hxu.1 hxu.2 W
      clear hxu
      have q1 : wr.drew.cell? ⟨g1, i * 2, none⟩ = some (.int .u32 y1) := cell_keeps HK.out.drew' p1 (by simp)
      have q2 : wr.drew.cell? ⟨g1, i * 2 + 1, none⟩ = some (.int .u32 y2) := cell_keeps HK.out.drew' p2 (by simp)
      have q3 : wr.drew.cell? ⟨g2, i * 2, none⟩ = some (.int .u32 y1) := cell_keeps HK.out.drew' r1 (by simp)
      have q4 : wr.drew.cell? ⟨g2, i * 2 + 1, none⟩ = some (.int .u32 y2) := cell_keeps HK.out.drew' r2 (by simp)
      clear p1 p2 r1 r2 hx
      go_wp2_with fail
      have HQQ := Lib.hid (And.intro q1 (And.intro q2 (And.intro q3 q4)))
      clear q1 q2 q3 q4
      go_region_held3 (fun W => W.cell? ⟨g1, i * 2, none⟩ = some (.int .u32 y1) ∧ W.cell? ⟨g1, i * 2 + 1, none⟩ = some (.int .u32 y2) ∧ W.cell? ⟨g2, i * 2, none⟩ = some (.int .u32 y1) ∧ W.cell? ⟨g2, i * 2 + 1, none⟩ = some (.int .u32 y2))
        (exact HQQ.out)
        (fail)
      go_wp2_with fail
      go_roundg (n + 1 - (i + 1))
      case measure => omega
      case rel => exact ⟨i + 1, by simp, by omega, rfl, Lib.hid HK.out.drew'⟩
    · have hltI : ¬ (i : Int) < (n : Int) := by omega
      go_wp2_with fail
      go_ret
      exact ⟨rfl, HK.out⟩
end Go.Proofs.Ytknlcieceghaiaa
