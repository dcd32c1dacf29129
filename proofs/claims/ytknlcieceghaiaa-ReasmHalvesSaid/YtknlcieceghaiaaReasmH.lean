/-
  The walks of package reasm (8): Held. Condition: the buffer's numbers are in the ranges of their kinds.
-/
import Derived.Test.YtknlcieceghaiaaReasmX
namespace Go.Proofs.Ytknlcieceghaiaa
open Go.RowKit
set_option linter.unusedVariables false
set_option linter.unusedSimpArgs false

/-- the runs that are told, as numbers -/
def heldR (s : BS) (d : List (Int × Int)) : List (Int × Int) := (d.filter fun r => decide (s.taken < r.1)).map fun r => (addI s.first r.1, addI s.first r.2)
def encH (l : List (Int × Int)) : List Value := l.flatMap fun r => [.int .u32 r.1, .int .u32 r.2]
theorem encH_append (a b : List (Int × Int)) : encH (a ++ b) = encH a ++ encH b := by simp [encH]
theorem heldR_len (s : BS) (d : List (Int × Int)) : (heldR s d).length = cntR s.taken d := by simp [heldR, cntR]
theorem heldR_snoc (s : BS) (d : List (Int × Int)) (f t : Int) : heldR s (d ++ [(f, t)]) = if s.taken < f then heldR s d ++ [(addI s.first f, addI s.first t)] else heldR s d := by
  unfold heldR
  rw [List.filter_append, List.map_append]
  by_cases h : s.taken < f <;> simp [h]
def BS.held (s : BS) : List (Int × Int) := heldR s (runsOf s.m)
theorem Try.infoH : (Try.prog.info? 68).map (fun i => (i.zero, i.size, i.bytes)) = some (some (.agg #[.int .u32 0, .int .u32 0]), 2, 8) := by kernel_rfl

/-- blocks below B, but for these, are as they were -/
structure KB (B : Nat) (S : List Nat) (w w' : World) : Prop where
  os : w'.os = w.os
  tape : w'.tape = w.tape
  output : w'.output = w.output
  size : w.heap.size ≤ w'.heap.size
  block : ∀ k, k < B → k ∉ S → w'.heap[k]? = w.heap[k]?
theorem Keeps.kb {S : List Nat} {W w w' : World} (h : Keeps S W w) (k : KB W.heap.size S w w') : Keeps S W w' :=
  ⟨k.os.trans h.os, k.tape.trans h.tape, k.output.trans h.output, Nat.le_trans h.size k.size, fun j hj hS => (k.block j hj hS).trans (h.block j hj hS)⟩

set_option maxRecDepth 100000 in
set_option maxHeartbeats 2000000 in
theorem held1_any {w : World} {b mb c1 c2 B : Nat} {s : BS} (h : BuffAt w b mb s) (ok : s.ok) (d : List (Int × Int)) (v : Value) (f t : Int) (q1 : w.cell? ⟨c1, 0, none⟩ = some (.pointer (some ⟨b, 0, none⟩))) (q2 : w.heap[c2]? = some (.cells #[v] 38 (0, 0)))
    (hown : w.ownsRow B 68 2 v (heldR s d).length (encH (heldR s d))) (hB : B ≤ w.heap.size) (h1 : c1 < B) (h2 : c2 < B) (hb : b < B) (hc12 : c1 ≠ c2) (hd : d.length ≤ 16384) (f0 : 0 ≤ f) (f1 : f < 16384) (t0 : 0 ≤ t) (t1 : t ≤ 16384) :
    Calls Try.prog 30 #[.int .i64 f, .int .i64 t, .pointer (some ⟨c1, 0, none⟩), .pointer (some ⟨c2, 0, none⟩)] w fun e w' => e = .returned (.tuple #[]) ∧
      ∃ v', w'.heap[c2]? = some (.cells #[v'] 38 (0, 0)) ∧ w'.ownsRow B 68 2 v' (heldR s (d ++ [(f, t)])).length (encH (heldR s (d ++ [(f, t)]))) ∧ KB B [c2] w w' := by
  have hc1 := h.c1
  have hlen : (heldR s d).length ≤ 16384 := by rw [heldR_len]; have := cntR_le s.taken d; omega
  by_cases hf : s.taken < f
  · have F := Lib.hid (show heldR s (d ++ [(f, t)]) = heldR s d ++ [(addI s.first f, addI s.first t)] by rw [heldR_snoc, if_pos hf])
    have hob : ∀ j, v.ownBlock = some j → B ≤ j := fun j hj => (hown.lt j hj).1
    have hlb := lt_of_block h.head
    have hc2w := lt_of_block q2
    have FZ := Lib.hid (fun (o : Obj) => (free_of_block (w := (w.alloc o).drew) ((Below.heap_alloc w o c2 hc2w).trans q2) 0 : (w.alloc o).drew.frozen? ⟨c2, 0, none⟩ = false))
    have GBK := Lib.hid (fun (X : World) (o : Obj) (g : ((w.alloc o).drew).grownBy X v.ownBlock) (k : Nat) (hk : k < B) => ((g.block k (by simp; omega) (fun e => by have := hob k e.symm; omega)).trans (Below.heap_alloc w o k (by omega)) : X.heap[k]? = w.heap[k]?))
    have GW := Lib.hid (fun (X : World) (o : Obj) (g : ((w.alloc o).drew).grownBy X v.ownBlock) => ((⟨g.os, g.tape, g.output⟩ : X.os = w.os ∧ X.tape = w.tape ∧ X.output = w.output)))
    have GZ := Lib.hid (fun (X : World) (o : Obj) (g : ((w.alloc o).drew).grownBy X v.ownBlock) => (by have := g.size; simp at this; omega : w.heap.size ≤ X.heap.size))
    have HB := Lib.hid (fun (X : World) (k : Keeps [] w X) => h.keep k (by simp) (by simp))
    have HO := Lib.hid hown
    have OKF := Lib.hid ok.f
    have Q2 := Lib.hid q2
    obtain ⟨i0, hi0, hz0, hz1, hz2⟩ := info_parts Try.infoH
    have I0 := Lib.hid hi0
    have Z0 := Lib.hid hz0
    have Z1 := Lib.hid hz1
    have Z2 := Lib.hid hz2
    have e2 := cell_of_block q2 0
    simp at e2
    have z2 := free_of_block q2 0
    have Q1 := Lib.hid q1
    generalize heldR s d = L at *
    clear h ok hown hi0 hz0 hz1 hz2 hob
    go_enter Try.func30, Try.ntmps30
    go_wp2_with fail
    go_region_law (first
      | (refine step_append_lies _ (by rfl) _ _ _ (by rfl) B 68 i0 _ 2 8 Try.underlying38 I0.out Z0.out Z1.out Z2.out rfl (by omega) v L.length _ (by rfl) ((HO.out.alloc _).drew) ⟨w.heap.size, 0, none⟩ 1 1 [.int .u32 (addI s.first f), .int .u32 (addI s.first t)] (by rfl) (by rfl) (World.news_of_block (cs := #[.int .u32 (addI s.first f), .int .u32 (addI s.first t)]) (t := 68) (fr := (0, 0)) (heap_alloc_new w _)) (by simp [Value.oneCell']) (by omega) (by simp only [maxLen]; omega) (by omega) (by simp; omega) (w.heap.size + 1) (by simp) ?_; intro gg cap w2 hown1 hgrow hat hlt2; have e5 := cell_of_block ((GBK.out _ _ hgrow c2 h2).trans Q2.out) 0; simp at e5; have z5 := free_of_block ((GBK.out _ _ hgrow c2 h2).trans Q2.out) 0)
      | (go_simp; go_at_call 29; refine (bat_any (HB.out _ (Keeps.drew _ _)) OKF.out _ (by assumption) (by omega)).mono ?_; rintro e w' ⟨rfl, rfl⟩))
    all_goals
      have hb5 := (GBK.out _ _ hgrow c2 h2).trans Q2.out
      have S5 := Lib.hid (heap_setCell_self hb5 0 (.slice (some ⟨gg, 0, none⟩) (L.length + 1) cap))
      have O5 := Lib.hid (own_setCell hown1 ⟨c2, 0, none⟩ (.slice (some ⟨gg, 0, none⟩) (L.length + 1) cap) h2)
      have K5 := Lib.hid (show KB B [c2] w (w2.setCell ⟨c2, 0, none⟩ (.slice (some ⟨gg, 0, none⟩) (L.length + 1) cap)) from ⟨(GW.out _ _ hgrow).1, (GW.out _ _ hgrow).2.1, (GW.out _ _ hgrow).2.2, by simp [World.setCell]; exact GZ.out _ _ hgrow, fun k hk hS => (Below.heap_setCell _ _ _ _ (by simpa using hS)).trans (GBK.out _ _ hgrow k hk)⟩)
      clear hb5 hown1 hgrow hat hlt2 e5 z5
      go_wp2_with fail
      go_end0
      exact ⟨rfl, _, S5.out, by rw [F.out, List.length_append, encH_append]; exact O5.out, K5.out⟩
  · have F := Lib.hid (show heldR s (d ++ [(f, t)]) = heldR s d by rw [heldR_snoc, if_neg hf])
    have hf1 : f ≤ s.taken := by omega
    have HO := Lib.hid hown
    have Q2 := Lib.hid q2
    clear hf hown q2
    go_enter Try.func30, Try.ntmps30
    go_wp2
    go_end0
    exact ⟨rfl, v, Q2.out, by rw [F.out]; exact HO.out, rfl, rfl, rfl, Nat.le_refl _, fun _ _ _ => rfl⟩

theorem held_inv {w : World} {b mb c1 c2 : Nat} {s : BS} (h : BuffAt w b mb s) (ok : s.ok) (q1 : w.cell? ⟨c1, 0, none⟩ = some (.pointer (some ⟨b, 0, none⟩))) (q2 : w.heap[c2]? = some (.cells #[.slice none 0 0] 38 (0, 0))) (n1 : c1 ≠ c2) (n2 : b ≠ c2) (n3 : mb ≠ c2) :
    RunInv [c2] 30 (.pointer (some ⟨c1, 0, none⟩)) (.pointer (some ⟨c2, 0, none⟩)) w (fun W d w' => (∃ v, w'.heap[c2]? = some (.cells #[v] 38 (0, 0)) ∧ w'.ownsRow W.heap.size 68 2 v (heldR s d).length (encH (heldR s d))) ∧ Keeps [c2] W w') where
  old := fun x hx => by simp at hx; subst hx; exact lt_of_block q2
  start := fun W hW => ⟨⟨_, by rw [hW.block _ (lt_of_block q2) (by simp)]; exact q2, World.ownsRow_nil _ _ _ _⟩, Keeps.refl _ _⟩
  keep := fun W d w' _ hI => hI.2
  step := fun W d w' f t hW hI hd f0 f1 t0 t1 => by
    obtain ⟨⟨v, hv, ho⟩, hk⟩ := hI
    have hB := (h.keep hW (by simp) (by simp)).keep hk (by simpa using n2) (by simpa using n3)
    have hc := cell_keeps hk (cell_keeps hW q1 (by simp)) (by simpa using n1)
    have l1 : c1 < w.heap.size := lt_of_cell q1
    have l2 := lt_of_block q2
    have l3 := lt_of_block h.head
    have hz := hW.size
    refine (held1_any hB ok d v f t hc hv ho hk.size (by omega) (by omega) (by omega) n1 hd f0 f1 t0 t1).mono fun e w'' ⟨h1, v', h2, h3, h4⟩ => ⟨h1, ⟨v', h2, h3⟩, hk.kb h4⟩

set_option maxRecDepth 100000 in
set_option maxHeartbeats 2000000 in
theorem bheld_any {w : World} {b mb : Nat} {s : BS} (h : BuffAt w b mb s) (ok : s.ok) :
    Calls Try.prog 13 #[.pointer (some ⟨b, 0, none⟩)] w fun e w' => ∃ v, e = .returned v ∧ w'.ownsRow w.heap.size 68 2 v s.held.length (encH s.held) ∧ Keeps [] w w' := by
  have h3 := h.c3
  have hkeys : ∀ k ∈ AL.keys s.m, 0 ≤ k ∧ k < 16384 := fun k hk => by have := ok.keys k hk; have := ok.t0; have := ok.r; omega
  have HB := Lib.hid (fun (X : World) (k : Keeps [] w X) => h.keep k (by simp) (by simp))
  have q0 : (w.alloc (.cells #[.pointer (some ⟨b, 0, none⟩)] 26)).cell? ⟨w.heap.size, 0, none⟩ = some (.pointer (some ⟨b, 0, none⟩)) := cell_of_block (MapKept.heap_alloc w (.cells #[.pointer (some ⟨b, 0, none⟩)] 26)).1 0
  have hlb := lt_of_block h.head
  have hlm := h.map.lt
  have OK := Lib.hid ok
  have FH := Lib.hid (show s.held = heldR s (runsOf s.m) from rfl)
  clear h ok
  go_enter Try.func13, Try.ntmps13
  go_wp2_with fail
  refine (bnone_any (HB.out _ (Keeps.alloc _ _ _))).mono ?_
  rintro e w1 ⟨rfl, rfl⟩
  go_wp2_with fail
  refine calls_gn fun W hW => ?_
  have hs1 : (w.alloc (.cells #[.pointer (some ⟨b, 0, none⟩)] 26)).heap.size = w.heap.size + 1 := by simp
  have q2 : W.heap[w.heap.size + 1]? = some (.cells #[.slice none 0 0] 38 (0, 0)) := by
    rw [hW]
    have := (MapKept.heap_alloc (w.alloc (.cells #[.pointer (some ⟨b, 0, none⟩)] 26)) (.cells #[.slice none 0 0] 38)).1
    rw [hs1] at this
    exact this
  have kW : Keeps [] w W := by rw [hW]; exact (Keeps.alloc _ _ _).alloc' _
  have q1 : W.cell? ⟨w.heap.size, 0, none⟩ = some (.pointer (some ⟨b, 0, none⟩)) := by rw [hW]; exact cell_keeps (Keeps.alloc [] _ _) q0 (by simp)
  clear hW
  have hbW := HB.out W kW
  refine (pieces_Held hbW.map OK.out.nd hkeys (held_inv hbW OK.out q1 q2 (by omega) (by omega) (by omega))).mono ?_
  rintro e w7 ⟨rfl, W2, kW2, ⟨v, hv, ho⟩, k7⟩
  rw [← FH.out] at ho
  have hz2 := kW.size
  have hz3 := kW2.size
  have ho2 : w7.ownsRow w.heap.size 68 2 v s.held.length (encH s.held) := by
    refine ⟨ho.1, ?_⟩
    rcases ho.2 with h0 | ⟨g, cap, cur, e1, e2, e3⟩
    · exact .inl h0
    · exact .inr ⟨g, cap, cur, e1, by omega, e3⟩
  have hk2 : Keeps [] w w7 := ((kW.trans kW2).mono (T := [w.heap.size + 1]) (by simp)).trans k7 |>.fresh (by intro x hx hlt; simp at hx; omega)
  have e1 := cell_of_block hv 0
  simp at e1
  have O2 := Lib.hid ho2
  have K2 := Lib.hid hk2
  clear hv ho ho2 hk2 k7 kW2 kW q2 hbW
  go_wp2_with fail
  go_ret
  exact ⟨v, rfl, O2.out, K2.out⟩
end Go.Proofs.Ytknlcieceghaiaa
