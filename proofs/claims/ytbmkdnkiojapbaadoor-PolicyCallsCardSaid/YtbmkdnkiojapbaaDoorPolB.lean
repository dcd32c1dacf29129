/-
  The walk of slices.AppendSeq over a table's rules: a row of the call's own that holds them, in some order. Condition: no name twice, no name long.
-/
import Derived.Test.YtbmkdnkiojapbaaDoorPolZ
namespace Go.Proofs.YtbmkdnkiojapbaaDoor
open Go.RowKit Go.Lib Go.Shelf
set_option linter.unusedVariables false
set_option linter.unusedSimpArgs false
attribute [local go_sem] Oper.semAt_some

set_option maxRecDepth 100000 in
set_option maxHeartbeats 4000000 in
theorem append_any (w : World) (Bm b : Nat) (T : List (ByteArray × PR)) (hBm : Bm < w.heap.size) (hm : w.cell? ⟨Bm, 0, none⟩ = some (.map (some b))) (ht : SMapAt w b encPR T) (hnd : (SL.keys T).Nodup) (hs : ∀ x ∈ T, x.1.size ≤ 1000) (hl : T.length ≤ 100000) :
    Calls Tryd.prog 74 #[.slice none 0 0, .func (.func 63) #[] #[.pointer (some ⟨Bm, 0, none⟩)]] w fun e w' => ∃ (v : Value) (ps : List (ByteArray × PR)), e = .returned v ∧ ps.Perm T ∧ OwnR w' w.heap.size v (ps.map (·.2)) ∧ Keeps [] w w' := by
  refine (callsIn_wide (n := 3)).1 ?_
  have hn : 1 ≤ 3 := by decide
  have HSTOP := Lib.hid (fun (W : World) (kz : Below w.heap.size w W) => values1_stops Fence.wide (3 - 1) trivial rfl (by decide) Bm b T W (Nat.lt_of_lt_of_le hBm kz.size) ((kz.cell (p := ⟨Bm, 0, none⟩) hBm).trans hm) (ht.of_heap (kz.block b ht.lt)) hnd hs hl)
  have HL := Lib.hid hl
  clear hm ht hnd hs hl hBm
  refine callsIn_of_wp_marks Tryd.func74 rfl trivial ?_ rfl
  simp only [Tryd.ntmps74, List.size_toArray, List.length_cons, List.length_nil, Nat.reduceAdd, Nat.reduceSub, Array.replicate_succ, Array.replicate_zero, List.push_toArray, List.append_toArray, List.nil_append, List.cons_append]
  gi_wp2_with fail
  have hbx := Boxed.new w 26 (.slice none 0 0)
  have hbl : Below w.heap.size w (w.alloc (.cells #[.slice none 0 0] 26)) := (Below.refl _ w).alloc (Nat.le_refl _) _
  obtain ⟨W0, hW0⟩ : ∃ W0, w.alloc (.cells #[.slice none 0 0] 26) = W0 := ⟨_, rfl⟩
  have hsz : W0.heap.size = w.heap.size + 1 := by rw [← hW0, World.size_alloc]
  rw [hW0] at hbx hbl ⊢
  have hstop := HSTOP.out W0 hbl
  have HBX := Lib.hid hbx
  have HBL := Lib.hid hbl
  have HSZ := Lib.hid hsz
  clear hW0 hbx hbl hsz
  refine wpIn_rangeFunc_ownH rfl hn (gf := 63) (lb := #[.pointer (some ⟨Bm, 0, none⟩)]) rfl trivial (enters_of Tryd.func63 (by kernel_rfl) rfl)
    hstop (fun h k => h.trans k) (fun W l o o' _ hl _ hw => KeepsWalks.putObj o' hl hw) (Below.refl _ _) (fun _ => rfl)
    (fun pre W => (∃ v, Boxed W w.heap.size 26 v ∧ W.ownsRow w.heap.size 35 4 v pre.length (rowR pre) ∧ True) ∧ Below w.heap.size w W)
    (fun _ _ _ => False)
    (OwnFrom.and (Own.from (holdsRow_own w.heap.size w.heap.size 26 35 4 List.length rowR (fun _ _ => True)) _) (ownFrom_below (by have := HSZ.out; omega) HBL.out.size))
    (fun _ _ _ _ _ h => h.elim)
    ⟨⟨_, HBX.out, World.ownsRow_nil _ _ _ _, trivial⟩, HBL.out⟩
    (fun x a' W => ∃ bx, W0.heap.size ≤ bx ∧ W.heap[bx]? = some (.cells #[.string x.name, .bool x.deny, .int .u32 x.addr, .int .u16 x.port] 35 (0, 0)) ∧ a' = { tmps := #[.slice none 0 0, .func (.func 63) #[] #[.pointer (some ⟨Bm, 0, none⟩)], .pointer (some ⟨w.heap.size, 0, none⟩), undef, .slice none 0 0, .pointer (some ⟨bx, 0, none⟩), .func (.func 63) #[] #[.pointer (some ⟨Bm, 0, none⟩)], .agg #[.string x.name, .bool x.deny, .int .u32 x.addr, .int .u16 x.port], undef, undef, undef, undef, undef], defers := [] })
    ?hAx ?assign ?body ?done ?stop
  case assign =>
    rintro l pre ⟨xn, xd, xa, xp⟩ W K ⟨⟨v, hv, hr, _⟩, hB⟩ hK
    have HK := Lib.hid hK
    have HV := Lib.hid hv
    have HR := Lib.hid hr
    have HB := Lib.hid hB
    clear hK hv hr hB
    unfold encPR
    gi_wp2
    refine HK.out _ _ ((KeepsOthers.alloc W _).from _) (KeepsWalks.alloc W _) ⟨⟨v, HV.out.alloc _, HR.out.alloc _, trivial⟩, HB.out.alloc HB.out.size _⟩ ⟨W.heap.size, ?_, (MapKept.heap_alloc W _).1, rfl⟩
    have := HV.out.lt
    have := HSZ.out
    omega
  case hAx =>
    intro x a' s A B row hs hg hr
    obtain ⟨bx, h1, h2, h3⟩ := hs
    exact ⟨bx, h1, block_kept h2 hg (fun r e => (hr r e).2), h3⟩
  case body =>
    rintro l pre ⟨xn, xd, xa, xp⟩ a' W _ _ ⟨⟨v, hv, hr, _⟩, hB⟩ ⟨bx, hb1, hb2, rfl⟩ hlen
    obtain ⟨bb, hi, hbb⟩ := Tryd.infoRule
    obtain ⟨i0, hi0, hz0, hz1, hz2⟩ := info_parts hi
    have c0 := hv.cell
    have c1 := hv.frozen
    have d0 := cell_of_block hb2 0
    have d1 := cell_of_block hb2 1
    have d2 := cell_of_block hb2 2
    have d3 := cell_of_block hb2 3
    have HV := Lib.hid hv
    have HR := Lib.hid hr
    have HB := Lib.hid hB
    have HA := Lib.hid (World.ownsRow.alloc hr (.cells #[.string xn, .bool xd, .int .u32 xa, .int .u16 xp] 35))
    have HI := Lib.hid (And.intro hi0 (And.intro hz0 (And.intro hz1 hz2)))
    have HBB := Lib.hid hbb
    have HLEN := Lib.hid hlen
    clear hv hr hB hb2 hi hi0 hz0 hz1 hz2 hbb hlen
    gi_wp2_with (first
      | (gi_at_builtin; refine wpListIn_append_own _ rfl (.tmp 8) (.tmp 10) 26 rfl w.heap.size 35 i0 _ 4 bb Tryd.underlying26 HI.out.1 HI.out.2.1 HI.out.2.2.1 HI.out.2.2.2 rfl (by omega) v pre.length (rowR pre) rfl HA.out ⟨W.heap.size, 0, none⟩ 1 1 (cellsR ⟨xn, xd, xa, xp⟩) rfl rfl ?c1 ?c2 ?c3 ?c4 ?c5 ?_)
      | gi_in)
    case c1 =>
      intro j u h
      exact h
    case c2 =>
      intro u hu
      simp only [cellsR, List.mem_cons, List.not_mem_nil, or_false] at hu
      rcases hu with rfl | rfl | rfl | rfl <;> rfl
    case c3 =>
      have := HLEN.out
      have := HL.out
      simp only [maxLen]
      omega
    case c4 =>
      have h1 := HLEN.out
      have h2 := HL.out
      exact Nat.le_trans (Nat.mul_le_mul (show pre.length + 1 ≤ 200000 by omega) HBB.out) (by omega)
    case c5 =>
      have := HB.out.size
      omega
    intro v' w1 hown1 hgrow1 _
    obtain ⟨hv1, hv2, hown2, hko, hbl2⟩ := Boxed.appended HV.out (by decide) HR.out HB.out.size (Nat.le_refl _) hown1 hgrow1
    obtain ⟨g, cap, rfl⟩ := ownsRow_succ hown1
    have e1 := hv1.cell
    have e2 := hv1.frozen
    have HEND := Lib.hid (And.intro hko (And.intro hbl2 (And.intro hv2 hown2)))
    clear hv1 hv2 hown2 hko hbl2 hown1 hgrow1 c0 c1 d0 d1 d2 d3
    gi_wp2
    refine ⟨HEND.out.1.from _, ⟨HEND.out.1.size, fun k o h hw => HEND.out.1.same k o h (Obj.not_cells_of_walk hw)⟩, ⟨_, HEND.out.2.2.1, ?_, trivial⟩, HB.out.trans HEND.out.2.1⟩
    rw [List.length_append, rowR_append]
    exact HEND.out.2.2.2
  case done =>
    rintro D xs W hD ⟨ps, hp, rfl⟩ ⟨⟨v, hv, hr, _⟩, hB⟩ hK
    have c0 := hv.cell
    have HR := Lib.hid hr
    have HB := Lib.hid hB
    have HKD := Lib.hid hK
    have HDD := Lib.hid (show w.heap.size ≤ D from Nat.le_trans HBL.out.size hD)
    have HP := Lib.hid hp
    clear hr hB hK hv hp
    gi_wp2
    refine ⟨by simp, .inl ⟨_, _, rfl, run_takeDeferred HKD.out, ?_⟩⟩
    refine ⟨v, ?_, v, ps, rfl, HP.out, ?_, ?_⟩
    · simp [results, Tryd.results74, go_sem]
    · exact ownsRow_putObj HR.out _ HKD.out rfl
    · exact Below.keeps (HB.out.trans (belowK_b (w := w) (Nat.le_refl _) _ D _ _ HDD.out HKD.out rfl rfl))
  case stop =>
    intro D c pre W _ _ h
    exact h.elim
theorem collect_any (w : World) (Bm b : Nat) (T : List (ByteArray × PR)) (hBm : Bm < w.heap.size) (hm : w.cell? ⟨Bm, 0, none⟩ = some (.map (some b))) (ht : SMapAt w b encPR T) (hnd : (SL.keys T).Nodup) (hs : ∀ x ∈ T, x.1.size ≤ 1000) (hl : T.length ≤ 100000) :
    Calls Tryd.prog 61 #[.func (.func 63) #[] #[.pointer (some ⟨Bm, 0, none⟩)]] w fun e w' => ∃ (v : Value) (ps : List (ByteArray × PR)), e = .returned v ∧ ps.Perm T ∧ OwnR w' w.heap.size v (ps.map (·.2)) ∧ Keeps [] w w' := by
  have H := Lib.hid (append_any w Bm b T hBm hm ht hnd hs hl)
  clear hBm hm ht hnd hs hl
  go_enter Tryd.func61, Tryd.ntmps61
  go_wp2_with fail
  refine H.out.mono ?_
  rintro e w2 ⟨v, ps, rfl, hp, ho, k⟩
  have HX := Lib.hid (And.intro hp (And.intro ho k))
  clear hp ho k
  go_wp2_with fail
  go_ret
  exact ⟨v, ps, rfl, HX.out⟩
end Go.Proofs.YtbmkdnkiojapbaaDoor
