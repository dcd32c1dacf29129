/-
  policy's All at any table: its row is of the call's own, and its ports may be written. Condition: no name twice, no name long.
-/
import Derived.Test.YtbmkdnkiojapbaaDoorPolC
import Derived.Shelf.SlSortCmp.NoneTotal
namespace Go.Proofs.YtbmkdnkiojapbaaDoor
open Go.RowKit Go.Lib Go.Shelf Go.Sort
set_option linter.unusedVariables false
set_option linter.unusedSimpArgs false

/-- the ports of a row's rules may be written -/
def PortsAt (w : World) (g n : Nat) : Prop := ∀ i, i < n → (∃ p, w.cell? ⟨g, i * 4 + 3, none⟩ = some (.int .u16 p)) ∧ w.frozen? ⟨g, i * 4 + 3, none⟩ = false
theorem ports_own {w : World} {base g n cap : Nat} {l : List PR} (hn : l.length = n) (h : OwnR w base (.slice (some ⟨g, 0, none⟩) n cap) l) : PortsAt w g n := fun i hi => by
  subst hn
  have hx := List.getElem?_eq_getElem hi
  have e := rowR_at l i hx 3 (by omega)
  have hc := World.ownsRow.cells h (g := g) rfl (i * 4 + 3) (.int .u16 l[i].port) (by rw [e]; rfl)
  rw [addr_at] at hc
  exact ⟨⟨_, hc⟩, World.ownsRow.frozenAt h _⟩
theorem ports_holds {w : World} {blk : Nat} {d : Array PR} (h : HoldsK cellsR 4 w blk 0 d) : PortsAt w blk d.size := fun i hi => by
  have h1 := HoldsK.cell h hi (c := 3) (by omega)
  rw [Nat.zero_add] at h1
  exact ⟨⟨d[i]!.port, h1.1⟩, h1.2⟩
theorem PortsAt.set {w : World} {g n : Nat} (h : PortsAt w g n) (i : Nat) (q : Int) : PortsAt (w.setCell ⟨g, i * 4 + 3, none⟩ (.int .u16 q)) g n := fun j hj => by
  obtain ⟨⟨p, hp⟩, hf⟩ := h j hj
  refine ⟨?_, (World.frozen?_setCell _ _ _ _).trans hf⟩
  by_cases e : i = j
  · subst e; exact ⟨q, World.cell?_setCell_same _ _ _ hp⟩
  · exact ⟨p, (World.cell?_setCell_other _ _ _ _ (by intro e'; injection e' with _ e'; omega)).trans hp⟩
theorem PortsAt.keep {S : List Nat} {w w' : World} {g n : Nat} (h : PortsAt w g n) (k : Keeps S w w') (hg : g < w.heap.size) (hS : g ∉ S) : PortsAt w' g n := fun i hi => by
  obtain ⟨⟨p, hp⟩, hf⟩ := h i hi
  exact ⟨⟨p, cell_keeps k hp hS⟩, (World.frozen?_of_block (w := w) (k.block g hg hS)).trans hf⟩
/-- slices.SortFunc at a row of the call's own -/
theorem sort_own (w : World) (base n cap : Nat) (A : Option Addr) (l : List PR) (hn : l.length = n) (hown : OwnR w base (.slice A n cap) l) (hl : l.length ≤ 100000) :
    Calls Tryd.prog 62 #[.slice A n cap, .func (.func 41) #[] #[]] w fun e w' => e = .returned (.tuple #[]) ∧ ∃ l', l'.Perm l ∧ Rising l' ∧ RulesAt w' A l' ∧
      ((A = none ∧ n = 0 ∧ w' = w) ∨ ∃ g, A = some ⟨g, 0, none⟩ ∧ base ≤ g ∧ g < w.heap.size ∧ PortsAt w' g n ∧ Keeps [g] w w') := by
  rcases hown.2 with ⟨h1, h2⟩ | ⟨g, cap', cur, h1, hb, hg, hnc, hm, hsz, ht⟩
  · injection h1 with h1 h3 h4
    subst h1 h3 h4
    have h5 : l = [] := List.eq_nil_of_length_eq_zero h2
    subst h5
    refine (AnyF.slices_SortFunc_none (ρ := Tryd.sortL_ren) Tryd.sortL none 0 _ w).mono fun e w' ⟨he, hw⟩ => ⟨he, [], List.Perm.refl _, List.Pairwise.nil, .inl rfl, .inl ⟨rfl, rfl, hw⟩⟩
  · injection h1 with h1 h3 h4
    subst h1 h4
    have hlt : g < w.heap.size := (hown.lt g rfl).2
    have hsz : l.toArray.size = n := by rw [List.size_toArray, hn]
    have H := AnyQ.slices_SortFunc (ρ := Tryd.sortL_ren) Tryd.sortL 4 (by intro w; exact Tryd.isAgg35 w) (by intro w; exact Tryd.sizeOf35 w) cellsR (fun x => rfl) (fun x v hv => by
        simp only [cellsR, List.mem_cons, List.not_mem_nil, or_false] at hv
        rcases hv with rfl | rfl | rfl | rfl <;> rfl) cfR cfR_swo 41 #[] g 0 cap l.toArray w (enters_of Tryd.func41 (by kernel_rfl) rfl) (cmp_lays g 0 _ w) (holds_own hown) hlt (by rw [hsz]; omega)
    rw [hsz] at H
    refine H.mono fun e w' ⟨he, d', m, os, hp, hs, hw⟩ => ?_
    have hsk : HoldsK cellsR 4 (putRowK cellsR 4 (Sort.ahead w m) g 0 d') g 0 d' := holdsK_putRowK cellsR 4 _ _ _ l.toArray d' (holds_own hown) hp.1
    have hsw := holdsK_grow cellsR 4 _ os g 0 d' (by rw [size_putRowK]; exact hlt) hsk
    refine ⟨he, d'.toList, ?_, ?_, ?_, .inr ⟨g, rfl, hb, hlt, ?_, ?_⟩⟩
    · have h2 := hp.2.2
      have e1 : d'.extract 0 n = d' := by rw [← hsz, ← hp.1]; simp
      have e2 : l.toArray.extract 0 n = l.toArray := by rw [← hsz]; simp
      rw [e1, e2] at h2
      simpa using h2
    · unfold Rising
      rw [List.pairwise_iff_getElem]
      intro i j hi hj hij
      have hj' : j < d'.size := by simpa using hj
      have hi' : i < d'.size := by simpa using hi
      have := hs i j (Nat.zero_le _) hij (by rw [← hsz, ← hp.1]; exact hj')
      rw [getElem!_pos d' j hj', getElem!_pos d' i hi'] at this
      simpa using this
    · rw [hw]
      exact rules_holds hsw
    · have := ports_holds hsw
      rw [hp.1, hsz] at this
      rw [hw]
      exact this
    · rw [hw]
      exact sorted_keeps
/-- the row that an All gives -/
def RowOut (w w' : World) (A : Option Addr) (n : Nat) : Prop := (A = none ∧ n = 0) ∨ ∃ g, A = some ⟨g, 0, none⟩ ∧ w.heap.size ≤ g ∧ g < w'.heap.size ∧ PortsAt w' g n
set_option maxRecDepth 100000 in
set_option maxHeartbeats 2000000 in
/-- slices.SortedFunc over a table's rules -/
theorem sortedF_own (w : World) (Bm b : Nat) (T : List (ByteArray × PR)) (hBm : Bm < w.heap.size) (hm : w.cell? ⟨Bm, 0, none⟩ = some (.map (some b))) (ht : SMapAt w b encPR T) (hnd : (SL.keys T).Nodup) (hs : ∀ x ∈ T, x.1.size ≤ 1000) (hl : T.length ≤ 100000) :
    Calls Tryd.prog 39 #[.func (.func 63) #[] #[.pointer (some ⟨Bm, 0, none⟩)], .func (.func 41) #[] #[]] w fun e w' =>
      ∃ A c l', e = .returned (.slice A T.length c) ∧ l'.Perm (T.map (·.2)) ∧ Rising l' ∧ RulesAt w' A l' ∧ T.length ≤ c ∧ c ≤ maxLen ∧ Keeps [] w w' ∧ RowOut w w' A T.length := by
  have H := Lib.hid (collect_any w Bm b T hBm hm ht hnd hs hl)
  have H0 := Lib.hid hl
  clear hBm hm ht hnd hs hl
  go_enter Tryd.func39, Tryd.ntmps39
  go_wp2_with fail
  refine H.out.mono ?_
  rintro e w2 ⟨v, ps, rfl, hp, ho, k⟩
  have hlen : (ps.map (·.2)).length = T.length := by rw [List.length_map, hp.length_eq]
  obtain ⟨A, c, rfl, _, hc1, hc2⟩ := ho.rules
  rw [hlen] at hc1 ho ⊢
  have HS := Lib.hid (sort_own w2 w.heap.size T.length c A (ps.map (·.2)) hlen ho (by rw [hlen]; exact H0.out))
  have HX := Lib.hid (And.intro hc1 (And.intro hc2 (And.intro (hp.map (·.2)) k)))
  clear hp ho hlen hc1 hc2 k
  go_wp2_with fail
  refine HS.out.mono ?_
  rintro e w3 ⟨rfl, l', hp2, hr2, hra, hz⟩
  have HY := Lib.hid (show Keeps [] w w3 ∧ RowOut w w3 A T.length by
    rcases hz with ⟨h1, h2, rfl⟩ | ⟨g, h1, h2, h3, h4, h5⟩
    · exact ⟨HX.out.2.2.2, .inl ⟨h1, h2⟩⟩
    · exact ⟨((HX.out.2.2.2.mono (T := [g]) (by simp)).trans h5).fresh (by intro y hy hlt; simp at hy; omega), .inr ⟨g, h1, h2, Nat.lt_of_lt_of_le h3 h5.size, h4⟩⟩)
  have HZ := Lib.hid (And.intro (hp2.trans HX.out.2.2.1) (And.intro hr2 hra))
  clear hp2 hr2 hra hz
  go_wp2_with fail
  go_ret
  exact ⟨_, c, l', rfl, HZ.out.1, HZ.out.2.1, HZ.out.2.2, HX.out.1, HX.out.2.1, HY.out.1, HY.out.2⟩
set_option maxRecDepth 100000 in
set_option maxHeartbeats 2000000 in
/-- policy's All at any table -/
theorem all_own (w : World) (tb mb : Nat) (T : List (ByteArray × PR)) (ht : TabAt w tb mb T) (hnd : (SL.keys T).Nodup) (hs : ∀ x ∈ T, x.1.size ≤ 1000) (hl : T.length ≤ 100000) :
    Calls Tryd.prog 18 #[.pointer (some ⟨tb, 0, none⟩)] w fun e w' => ∃ A c l', e = .returned (.slice A T.length c) ∧ l'.Perm (T.map (·.2)) ∧ Rising l' ∧ RulesAt w' A l' ∧ T.length ≤ c ∧ c ≤ maxLen ∧ Keeps [] w w' ∧ RowOut w w' A T.length := by
  have c0 := cell_of_block ht.head 0
  have hal := (MapKept.heap_alloc w (.cells #[.map (some mb)] 67)).1
  have HS := Lib.hid (sortedF_own (w.alloc (.cells #[.map (some mb)] 67)) w.heap.size mb T (by rw [World.size_alloc]; omega) (cell_of_block hal 0) (ht.map.keep (Keeps.alloc [] w _) (by simp)) hnd hs hl)
  clear ht hnd hs hl hal
  go_enter Tryd.func18, Tryd.ntmps18
  go_wp2_with fail
  refine (values_any w mb).mono ?_
  rintro e w2 ⟨rfl, rfl⟩
  go_wp2_with fail
  refine HS.out.mono ?_
  rintro e w3 ⟨A, c, l', rfl, h1, h2, h3, h4, h5, k, hz⟩
  have HX := Lib.hid (show l'.Perm (T.map (·.2)) ∧ Rising l' ∧ RulesAt w3 A l' ∧ T.length ≤ c ∧ c ≤ maxLen ∧ Keeps [] w w3 ∧ RowOut w w3 A T.length from ⟨h1, h2, h3, h4, h5, (Keeps.alloc [] w _).trans k, by
    rcases hz with hz | ⟨g, g1, g2, g3⟩
    · exact .inl hz
    · exact .inr ⟨g, g1, by rw [World.size_alloc] at g2; omega, g3⟩⟩)
  clear h1 h2 h3 h4 h5 k hz
  go_wp2_with fail
  go_ret
  exact ⟨A, c, l', rfl, HX.out⟩
end Go.Proofs.YtbmkdnkiojapbaaDoor
