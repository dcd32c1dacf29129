/-
  The walks of slices.SortFunc over rules by their names, and of policy's All: the rules, rising by name. Condition: no name twice, no name long.
-/
import Derived.Test.YtbmkdnkiojapbaaDoorPolB
import Derived.Test.YtbmkdnkiojapbaaDoorPolSo
import Derived.Shelf.SlSortCmp.WholeK
namespace Go.Proofs.YtbmkdnkiojapbaaDoor
open Go.RowKit Go.Lib Go.Shelf Go.Sort
set_option linter.unusedVariables false
set_option linter.unusedSimpArgs false

theorem cb_trans : ∀ a b c : List UInt8, compareBytes a b < 0 → compareBytes b c < 0 → compareBytes a c < 0
  | [], [], _, h, _ => by simp [compareBytes] at h
  | [], _ :: _, [], _, h => by simp [compareBytes] at h
  | [], _ :: _, _ :: _, _, _ => by simp [compareBytes]
  | _ :: _, [], _, h, _ => by simp [compareBytes] at h
  | _ :: _, _ :: _, [], _, h => by simp [compareBytes] at h
  | x :: a, y :: b, z :: c, h1, h2 => by
    have ih := cb_trans a b c
    simp only [compareBytes, UInt8.lt_iff_toNat_lt] at *
    split at h1
    · split at h2
      · rw [if_pos (by omega)]; omega
      · split at h2
        · omega
        · rw [if_pos (by omega)]; omega
    · split at h1
      · omega
      · split at h2
        · rw [if_pos (by omega)]; omega
        · split at h2
          · omega
          · rw [if_neg (by omega), if_neg (by omega)]
            exact ih h1 h2
theorem cb_ntrans : ∀ a b c : List UInt8, ¬ compareBytes a b < 0 → ¬ compareBytes b c < 0 → ¬ compareBytes a c < 0
  | [], [], [], _, _ => by simp [compareBytes]
  | [], [], _ :: _, _, h => by simp [compareBytes] at h
  | [], _ :: _, _, h, _ => by simp [compareBytes] at h
  | _ :: _, [], [], _, _ => by simp [compareBytes]
  | _ :: _, [], _ :: _, _, h => by simp [compareBytes] at h
  | _ :: _, _ :: _, [], _, _ => by simp [compareBytes]
  | x :: a, y :: b, z :: c, h1, h2 => by
    have ih := cb_ntrans a b c
    simp only [compareBytes, UInt8.lt_iff_toNat_lt] at *
    split at h1
    · omega
    · split at h1
      · split at h2
        · omega
        · split at h2
          · rw [if_neg (by omega), if_pos (by omega)]; omega
          · rw [if_neg (by omega), if_pos (by omega)]; omega
      · split at h2
        · omega
        · split at h2
          · rw [if_neg (by omega), if_pos (by omega)]; omega
          · rw [if_neg (by omega), if_neg (by omega)]
            exact ih h1 h2
theorem cb_eq : ∀ a b : List UInt8, ¬ compareBytes a b < 0 → ¬ compareBytes b a < 0 → a = b
  | [], [], _, _ => rfl
  | [], _ :: _, h, _ => by simp [compareBytes] at h
  | _ :: _, [], _, h => by simp [compareBytes] at h
  | x :: a, y :: b, h1, h2 => by
    have ih := cb_eq a b
    simp only [compareBytes, UInt8.lt_iff_toNat_lt] at *
    by_cases e1 : x.toNat < y.toNat
    · rw [if_pos e1] at h1; omega
    · by_cases e2 : y.toNat < x.toNat
      · rw [if_pos e2] at h2; omega
      · rw [if_neg e1, if_neg e2] at h1
        rw [if_neg e2, if_neg e1] at h2
        have : x = y := UInt8.toNat_inj.1 (by omega)
        rw [this, ih h1 h2]
theorem cb_refl : ∀ a : List UInt8, compareBytes a a = 0
  | [] => rfl
  | x :: a => by simp [compareBytes, cb_refl a]
/-- rules by their names -/
def cfR (x y : PR) : Int := compareBytes x.name.data.toList y.name.data.toList
theorem cfR_swo : SWO (ltOf cfR) where
  irrefl x := by simp [ltOf, cfR, cb_refl]
  trans x y z h1 h2 := decide_eq_true (cb_trans _ _ _ (of_decide_eq_true h1) (of_decide_eq_true h2))
  ntrans x y z h1 h2 := decide_eq_false (cb_ntrans _ _ _ (of_decide_eq_false h1) (of_decide_eq_false h2))
/-- rising by name -/
def Rising (l : List PR) : Prop := l.Pairwise fun x y => ltOf cfR y x = false
theorem rising_unique {l1 l2 : List PR} (hp : l1.Perm l2) (h1 : Rising l1) (h2 : Rising l2) (hn : (l1.map PR.name).Nodup) : l1 = l2 := by
  refine List.Perm.eq_of_pairwise (le := fun x y => ltOf cfR y x = false) (fun a b ha hb g1 g2 => ?_) h1 h2 hp
  have e : a.name = b.name := ba_ext (cb_eq _ _ (of_decide_eq_false g2) (of_decide_eq_false g1))
  have hb' : b ∈ l1 := hp.mem_iff.2 hb
  clear g1 g2 h1 h2 hp hb
  induction l1 with
  | nil => simp at ha
  | cons x t ih =>
    rw [List.map_cons, List.nodup_cons] at hn
    rcases List.mem_cons.1 ha with ha | ha
    · rcases List.mem_cons.1 hb' with hb | hb
      · rw [ha, hb]
      · exact absurd (by rw [← ha, e]; exact List.mem_map_of_mem hb) hn.1
    · rcases List.mem_cons.1 hb' with hb | hb
      · exact absurd (by rw [← hb, ← e]; exact List.mem_map_of_mem ha) hn.1
      · exact ih hn.2 ha hb

instance : Inhabited PR := ⟨zeroPR⟩
set_option maxRecDepth 100000 in
theorem cmp_any (W : World) (x y : PR) : Calls Tryd.prog 41 #[.agg (cellsR x).toArray, .agg (cellsR y).toArray] W fun e w' => e = .returned (.int .i64 (cfR x y)) ∧ w' = (W.alloc (.cells (cellsR x).toArray 35)).alloc (.cells (cellsR y).toArray 35) := by
  obtain ⟨xn, xd, xa, xp⟩ := x
  obtain ⟨yn, yd, ya, yp⟩ := y
  simp only [cellsR]
  go_enter Tryd.func41, Tryd.ntmps41
  go_wp2_with (first | (go_at_call 42; refine (Any.strings_Compare (ρ := Tryd.compareL_ren) Tryd.compareL xn yn _).mono ?_; rintro e w' ⟨rfl, rfl⟩))
  go_ret
  exact ⟨rfl, rfl⟩
theorem cmp_lays (blk off size : Nat) (w : World) : CmpLays Tryd.prog 41 #[] cellsR 4 cfR blk off size w := fun m os dk hs x y =>
  (cmp_any (sortWorldK cellsR 4 w blk off m dk os) x y).mono fun e w' ⟨he, hw⟩ => ⟨he, 0, #[.cells (cellsR x).toArray 35 (0, 0), .cells (cellsR y).toArray 35 (0, 0)], by
    rw [hw, alloc_eq_grow, alloc_eq_grow, grow_grow]; rfl⟩
theorem holds_own {w : World} {base g n cap : Nat} {l : List PR} (h : OwnR w base (.slice (some ⟨g, 0, none⟩) n cap) l) : HoldsK cellsR 4 w g 0 l.toArray := by
  intro j hj
  rw [size_flatK, List.size_toArray] at hj
  have hi : j / 4 < l.length := by omega
  have hx := List.getElem?_eq_getElem hi
  have e := rowR_at l (j / 4) hx (j % 4) (by omega)
  rw [show j / 4 * 4 + j % 4 = j by omega] at e
  have hlen : j % 4 < (cellsR l[j / 4]).length := by simp [cellsR]; omega
  rw [List.getElem?_eq_getElem hlen] at e
  have hc := World.ownsRow.cells h (g := g) rfl j _ e
  rw [addr_at] at hc
  have e2 : (flatK cellsR 4 l.toArray)[j]! = (cellsR l[j / 4])[j % 4] := by
    rw [get_flatK _ _ _ _ (by rw [List.size_toArray]; exact hj)]
    have e3 : l.toArray[j / 4]! = l[j / 4] := by
      rw [getElem!_pos l.toArray (j / 4) (by rw [List.size_toArray]; exact hi)]
      simp
    rw [e3, getElem!_pos (cellsR l[j / 4]) (j % 4) hlen]
  rw [e2, Nat.zero_add]
  refine ⟨hc, ?_⟩
  rcases h.2 with ⟨h0, _⟩ | ⟨g', cap', cur, h0, hb, hg, hnc, hm, hsz, ht⟩
  · cases h0
  · injection h0 with h0
    injection h0 with h0
    injection h0 with h0
    subst h0
    exact free_of_block hg _
theorem onCells_other (w : World) (f : Array Value → Array Value) (blk j : Nat) (h : j ≠ blk) : (mapBlock w blk f).heap[j]? = w.heap[j]? := by
  unfold mapBlock
  simp only [Array.getElem?_modify]
  rw [if_neg (fun e => h e.symm)]
theorem sorted_keeps {w : World} {blk n : Nat} {d : Array PR} {os : Array Obj} : Keeps [blk] w (sortWorldK cellsR 4 w blk 0 n d os) := by
  refine ⟨rfl, rfl, rfl, ?_, fun j hj hne => ?_⟩
  · unfold sortWorldK grow
    simp only [Array.size_append]
    have := size_putRowK (enc := cellsR) (k := 4) (Sort.ahead w n) blk 0 d
    rw [this]
    exact Nat.le_add_right _ _
  · unfold sortWorldK grow
    simp only
    have hs := size_putRowK (enc := cellsR) (k := 4) (Sort.ahead w n) blk 0 d
    rw [Array.getElem?_append_left (by rw [hs]; exact hj)]
    exact onCells_other _ _ _ _ (by simpa using hne)
theorem rules_holds {w : World} {blk : Nat} {d : Array PR} (h : HoldsK cellsR 4 w blk 0 d) : RulesAt w (some ⟨blk, 0, none⟩) d.toList := by
  refine .inr ⟨blk, 0, rfl, fun i x hx => ?_⟩
  have hi : i < d.size := by have := (List.getElem?_eq_some_iff.1 hx).1; simpa using this
  have hd : d[i]! = x := by
    rw [getElem!_pos d i hi]
    have := (List.getElem?_eq_some_iff.1 hx).2
    simpa using this
  have key : ∀ c, c < 4 → w.cell? ⟨blk, 0 + i * 4 + c, none⟩ = some (cellsR x)[c]! := fun c hc => by
    have := (HoldsK.cell h hi hc).1
    rw [hd] at this
    exact this
  exact ⟨key 0 (by omega), key 1 (by omega), key 2 (by omega), key 3 (by omega)⟩
/-- slices.SortFunc at a row of the call's own that is not empty -/
theorem sort_any (w : World) (base g n cap : Nat) (l : List PR) (hn : l.length = n) (hown : OwnR w base (.slice (some ⟨g, 0, none⟩) n cap) l) (hl : l.length ≤ 100000) :
    Calls Tryd.prog 62 #[.slice (some ⟨g, 0, none⟩) n cap, .func (.func 41) #[] #[]] w fun e w' => e = .returned (.tuple #[]) ∧ ∃ l', l'.Perm l ∧ Rising l' ∧ RulesAt w' (some ⟨g, 0, none⟩) l' ∧ Keeps [g] w w' := by
  have hlt : g < w.heap.size := (hown.lt g rfl).2
  have hsz : l.toArray.size = n := by rw [List.size_toArray, hn]
  have H := AnyQ.slices_SortFunc (ρ := Tryd.sortL_ren) Tryd.sortL 4 (by intro w; exact Tryd.isAgg35 w) (by intro w; exact Tryd.sizeOf35 w) cellsR (fun x => rfl) (fun x v hv => by
      simp only [cellsR, List.mem_cons, List.not_mem_nil, or_false] at hv
      rcases hv with rfl | rfl | rfl | rfl <;> rfl) cfR cfR_swo 41 #[] g 0 cap l.toArray w (enters_of Tryd.func41 (by kernel_rfl) rfl) (cmp_lays g 0 _ w) (holds_own hown) hlt (by rw [hsz]; omega)
  rw [hsz] at H
  refine H.mono fun e w' ⟨he, d', m, os, hp, hs, hw⟩ => ?_
  refine ⟨he, d'.toList, ?_, ?_, ?_, ?_⟩
  · have h2 := hp.2.2
    have e1 : d'.extract 0 n = d' := by rw [← hsz, ← hp.1]; simp
    have e2 : l.toArray.extract 0 n = l.toArray := by rw [← hsz]; simp
    rw [e1, e2] at h2
    simpa using h2
  · unfold Rising
    rw [List.pairwise_iff_getElem]
    intro i j hi hj hij
    have hj' : j < d'.size := by simpa using hj
    have hi' : i < d'.size := by simpa using hi
    have := hs i j (Nat.zero_le _) hij (by rw [← hsz, ← hp.1]; exact hj')
    rw [getElem!_pos d' j hj', getElem!_pos d' i hi'] at this
    simpa using this
  · rw [hw]
    refine rules_holds ?_
    have hsk : HoldsK cellsR 4 (putRowK cellsR 4 (Sort.ahead w m) g 0 d') g 0 d' := holdsK_putRowK cellsR 4 _ _ _ l.toArray d' (holds_own hown) hp.1
    exact holdsK_grow cellsR 4 _ os g 0 d' (by rw [size_putRowK]; exact hlt) hsk
  · rw [hw]
    exact sorted_keeps
theorem own_some {w : World} {base : Nat} {v : Value} {l : List PR} (h : OwnR w base v l) (h0 : 0 < l.length) : ∃ g c, v = .slice (some ⟨g, 0, none⟩) l.length c ∧ base ≤ g ∧ l.length ≤ c ∧ c ≤ maxLen := by
  rcases h.2 with ⟨_, h1⟩ | ⟨g, cap, cur, rfl, hb, hg, hnc, hm, hsz, ht⟩
  · omega
  · exact ⟨g, cap, rfl, hb, hnc, hm⟩
set_option maxRecDepth 100000 in
set_option maxHeartbeats 2000000 in
/-- slices.SortedFunc over a table's rules -/
theorem sortedF_any (w : World) (Bm b : Nat) (T : List (ByteArray × PR)) (hBm : Bm < w.heap.size) (hm : w.cell? ⟨Bm, 0, none⟩ = some (.map (some b))) (ht : SMapAt w b encPR T) (hnd : (SL.keys T).Nodup) (hs : ∀ x ∈ T, x.1.size ≤ 1000) (hl : T.length ≤ 100000) (h0 : 0 < T.length) :
    Calls Tryd.prog 39 #[.func (.func 63) #[] #[.pointer (some ⟨Bm, 0, none⟩)], .func (.func 41) #[] #[]] w fun e w' =>
      ∃ A c l', e = .returned (.slice A T.length c) ∧ l'.Perm (T.map (·.2)) ∧ Rising l' ∧ RulesAt w' A l' ∧ T.length ≤ c ∧ c ≤ maxLen ∧ Keeps [] w w' := by
  have H := Lib.hid (collect_any w Bm b T hBm hm ht hnd hs hl)
  have H0 := Lib.hid (And.intro h0 hl)
  clear hBm hm ht hnd hs hl h0
  go_enter Tryd.func39, Tryd.ntmps39
  go_wp2_with fail
  refine H.out.mono ?_
  rintro e w2 ⟨v, ps, rfl, hp, ho, k⟩
  have hlen : (ps.map (·.2)).length = T.length := by rw [List.length_map, hp.length_eq]
  obtain ⟨g, c, rfl, hg, hc1, hc2⟩ := own_some ho (by rw [hlen]; exact H0.out.1)
  rw [hlen] at hc1 ho ⊢
  have HS := Lib.hid (sort_any w2 w.heap.size g T.length c (ps.map (·.2)) hlen ho (by rw [hlen]; exact H0.out.2))
  have HX := Lib.hid (And.intro hg (And.intro hc1 (And.intro hc2 (And.intro (hp.map (·.2)) k))))
  clear hp ho hlen hg hc1 hc2 k
  go_wp2_with fail
  refine HS.out.mono ?_
  rintro e w3 ⟨rfl, l', hp2, hr2, hra, k3⟩
  have HY := Lib.hid (And.intro (hp2.trans HX.out.2.2.2.1) (And.intro hr2 (And.intro hra (show Keeps [] w w3 from ((HX.out.2.2.2.2.mono (T := [g]) (by simp)).trans k3).fresh (by intro y hy hlt; simp at hy; have := HX.out.1; omega)))))
  clear hp2 hr2 hra k3
  go_wp2_with fail
  go_ret
  exact ⟨_, c, l', rfl, HY.out.1, HY.out.2.1, HY.out.2.2.1, HX.out.2.1, HX.out.2.2.1, HY.out.2.2.2⟩
set_option maxRecDepth 100000 in
set_option maxHeartbeats 2000000 in
/-- policy's All at a table that is not empty -/
theorem all_any (w : World) (tb mb : Nat) (T : List (ByteArray × PR)) (ht : TabAt w tb mb T) (hnd : (SL.keys T).Nodup) (hs : ∀ x ∈ T, x.1.size ≤ 1000) (hl : T.length ≤ 100000) (h0 : 0 < T.length) :
    Calls Tryd.prog 18 #[.pointer (some ⟨tb, 0, none⟩)] w fun e w' => ∃ A c l', e = .returned (.slice A T.length c) ∧ l'.Perm (T.map (·.2)) ∧ Rising l' ∧ RulesAt w' A l' ∧ T.length ≤ c ∧ c ≤ maxLen ∧ Keeps [] w w' := by
  have c0 := cell_of_block ht.head 0
  have hal := (MapKept.heap_alloc w (.cells #[.map (some mb)] 67)).1
  have HS := Lib.hid (sortedF_any (w.alloc (.cells #[.map (some mb)] 67)) w.heap.size mb T (by rw [World.size_alloc]; omega) (cell_of_block hal 0) (ht.map.keep (Keeps.alloc [] w _) (by simp)) hnd hs hl h0)
  clear ht hnd hs hl h0 hal
  go_enter Tryd.func18, Tryd.ntmps18
  go_wp2_with fail
  refine (values_any w mb).mono ?_
  rintro e w2 ⟨rfl, rfl⟩
  go_wp2_with fail
  refine HS.out.mono ?_
  rintro e w3 ⟨A, c, l', rfl, h1, h2, h3, h4, h5, k⟩
  have HX := Lib.hid (And.intro h1 (And.intro h2 (And.intro h3 (And.intro h4 (And.intro h5 ((Keeps.alloc [] w _).trans k))))))
  clear h1 h2 h3 h4 h5 k
  go_wp2_with fail
  go_ret
  exact ⟨A, c, l', rfl, HX.out⟩
end Go.Proofs.YtbmkdnkiojapbaaDoor
