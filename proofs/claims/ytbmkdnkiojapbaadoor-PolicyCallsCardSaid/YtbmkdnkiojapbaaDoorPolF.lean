/-
  The walk of policy's Find: the first of the names that has a rule. Condition: the library's tables lie as the row lists them; the table lies in memory.
-/
import Derived.Test.YtbmkdnkiojapbaaDoorPolI
namespace Go.Proofs.YtbmkdnkiojapbaaDoor
open Go.RowKit Go.Lib Go.Shelf
set_option linter.unusedVariables false
set_option linter.unusedSimpArgs false
attribute [local go_sem] Oper.semAt_some

/-- the rule that is found -/
def findT (T : List (ByteArray × PR)) (h : ByteArray) : Option PR := (namesB h).findSome? fun s => SL.find s T
theorem fold_size (s : ByteArray) : (foldB s).size ≤ 253 := by
  unfold foldB
  rw [foldL_eq]
  cases h : foldA s.data.toList with
  | none => simp
  | some l =>
    obtain ⟨_, h2, _, _, h5⟩ := foldA_some h
    simp only
    show l.toArray.size ≤ 253
    rw [List.size_toArray, h5, List.length_map]
    exact h2
theorem findT_some {T : List (ByteArray × PR)} {h y : ByteArray} {q : List ByteArray} {x : PR} (hp : (q ++ [y]) <+: namesB h) (hq : ∀ z ∈ q, SL.find z T = none) (hx : SL.find y T = some x) : findT T h = some x := by
  obtain ⟨r, hr⟩ := hp
  unfold findT
  rw [← hr, List.findSome?_append, List.findSome?_append]
  have h1 : q.findSome? (fun s => SL.find s T) = none := List.findSome?_eq_none_iff.2 hq
  rw [h1]
  simp [hx]
theorem findT_none {T : List (ByteArray × PR)} {h : ByteArray} (hq : ∀ z ∈ namesB h, SL.find z T = none) : findT T h = none := List.findSome?_eq_none_iff.2 hq
theorem block_kept {A B : World} {row : Option Nat} {k : Nat} {cs : Array Value} {t : TypeId} {z : Nat × Nat} (h : A.heap[k]? = some (.cells cs t z)) (hg : A.grownBy B row) (hr : ∀ r, row = some r → ∃ o : Obj, A.heap[r]? = some o ∧ o.isCells = false) : B.heap[k]? = some (.cells cs t z) := by
  refine (hg.block k (Array.getElem?_eq_some_iff.1 h).1 ?_).trans h
  intro e
  obtain ⟨o, ho, hc⟩ := hr k e.symm
  rw [h] at ho
  injection ho with ho
  subst ho
  simp [Obj.isCells] at hc
theorem names_any (w : World) (h : ByteArray) : Calls Tryd.prog 32 #[.string h] w fun e w' => e = .returned (.func (.func 53) #[] #[.pointer (some ⟨w.heap.size, 0, none⟩)]) ∧ w' = w.alloc (.cells #[.string h] 9) := by
  go_enter Tryd.func32, Tryd.ntmps32
  go_wp2_with fail
  go_ret
  exact ⟨rfl, rfl⟩

set_option maxRecDepth 100000 in
set_option maxHeartbeats 4000000 in
theorem find_any (w : World) (hw : LW w) (tb mb : Nat) (T : List (ByteArray × PR)) (ht : TabAt w tb mb T) (name : ByteArray) :
    Calls Tryd.prog 13 #[.pointer (some ⟨tb, 0, none⟩), .string name] w fun e w' => e = .returned (.tuple #[encPR ((findT T (foldB name)).getD zeroPR), .bool (findT T (foldB name)).isSome]) ∧ Keeps [] w w' := by
  refine (callsIn_wide (n := 3)).1 ?_
  have hn : 1 ≤ 3 := by decide
  have HW := Lib.hid hw
  have HT := Lib.hid ht
  clear hw ht
  refine callsIn_of_wp_marks Tryd.func13 rfl trivial ?_ rfl
  simp only [Tryd.ntmps13, List.size_toArray, List.length_cons, List.length_nil, Nat.reduceAdd, Nat.reduceSub, Array.replicate_succ, Array.replicate_zero, List.push_toArray, List.append_toArray, List.nil_append, List.cons_append]
  gi_wp2_with (first
    | (refine ⟨trivial, ?_⟩; gi_at_call 9; refine (callsIn_wide.2 (fold_any _ (HW.out.keep0 (((Keeps.alloc [] w _).alloc' _).alloc' _)) name)).mono ?_; rintro e w1 ⟨rfl, k1⟩)
    | (refine ⟨trivial, ?_⟩; gi_at_call 32; refine (callsIn_wide.2 (names_any _ _)).mono ?_; rintro e w2 ⟨rfl, rfl⟩))
  obtain ⟨fb, hfb⟩ : ∃ fb, foldB name = fb := ⟨_, rfl⟩
  obtain ⟨fi, hfi⟩ : ∃ fi, foldIs name = fi := ⟨_, rfl⟩
  have hfs : fb.size ≤ 253 := by rw [← hfb]; exact fold_size name
  rw [hfb, hfi]
  obtain ⟨pb, hpb⟩ : ∃ pb, w.heap.size = pb := ⟨_, rfl⟩
  obtain ⟨sb, hsb⟩ : ∃ sb, pb + 1 = sb := ⟨_, rfl⟩
  obtain ⟨bb, hbb⟩ : ∃ bb, sb + 1 = bb := ⟨_, rfl⟩
  obtain ⟨hb, hhb⟩ : ∃ hb, w1.heap.size = hb := ⟨_, rfl⟩
  have z1 : (w.alloc (.cells #[.pointer (some ⟨tb, 0, none⟩)] 37)).heap.size = sb := by rw [World.size_alloc, hpb, hsb]
  have z2 : ((w.alloc (.cells #[.pointer (some ⟨tb, 0, none⟩)] 37)).alloc (.cells #[.string ⟨#[]⟩, .bool false, .int .u32 0, .int .u16 0] 35)).heap.size = bb := by rw [World.size_alloc, z1, hbb]
  have p1 := (MapKept.heap_alloc w (.cells #[.pointer (some ⟨tb, 0, none⟩)] 37)).1
  have p2 := (MapKept.heap_alloc (w.alloc (.cells #[.pointer (some ⟨tb, 0, none⟩)] 37)) (.cells #[.string ⟨#[]⟩, .bool false, .int .u32 0, .int .u16 0] 35)).1
  have p3 := (MapKept.heap_alloc ((w.alloc (.cells #[.pointer (some ⟨tb, 0, none⟩)] 37)).alloc (.cells #[.string ⟨#[]⟩, .bool false, .int .u32 0, .int .u16 0] 35)) (.cells #[.bool false] 4)).1
  rw [hpb] at p1
  rw [z1] at p2
  rw [z2] at p3
  obtain ⟨W0, hW0⟩ : ∃ W0, w1.alloc (.cells #[.string fb] 9) = W0 := ⟨_, rfl⟩
  have k2 : Keeps [] w1 W0 := by rw [← hW0]; exact Keeps.alloc [] w1 _
  have k3 := k1.trans k2
  have q1 : W0.heap[pb]? = some (.cells #[.pointer (some ⟨tb, 0, none⟩)] 37 (0, 0)) := by
    refine (k3.block pb (by rw [World.size_alloc, z2]; omega) (by simp)).trans ?_
    exact ((Below.heap_alloc _ _ pb (by rw [z2]; omega)).trans (Below.heap_alloc _ _ pb (by rw [z1]; omega))).trans p1
  have q2 : W0.heap[sb]? = some (.cells #[.string ⟨#[]⟩, .bool false, .int .u32 0, .int .u16 0] 35 (0, 0)) := by
    refine (k3.block sb (by rw [World.size_alloc, z2]; omega) (by simp)).trans ?_
    exact (Below.heap_alloc _ _ sb (by rw [z2]; omega)).trans p2
  have q3 : W0.heap[bb]? = some (.cells #[.bool false] 4 (0, 0)) := (k3.block bb (by rw [World.size_alloc, z2]; omega) (by simp)).trans p3
  have q4 : W0.cell? ⟨hb, 0, none⟩ = some (.string fb) := by
    rw [← hW0, ← hhb]
    exact cell_of_block (MapKept.heap_alloc w1 (.cells #[.string fb] 9)).1 0
  have q5 : W0.heap.size = hb + 1 := by rw [← hW0, World.size_alloc, hhb]
  have hKW : Keeps [] w W0 := (((Keeps.alloc [] w _).alloc' _).alloc' _).trans k3
  have hBW : Below w.heap.size w W0 := hKW.below (Nat.le_refl _) (by simp)
  rw [hW0, hpb, hsb, hbb, hhb]
  have hzz : pb < bb ∧ sb < bb ∧ bb < hb := by
    have := k1.size
    rw [World.size_alloc, z2, hhb] at this
    omega
  have Q1 := Lib.hid q1
  have Q2 := Lib.hid q2
  have Q3 := Lib.hid q3
  have Q4 := Lib.hid q4
  have Q5 := Lib.hid q5
  have HBW := Lib.hid hBW
  have HPB := Lib.hid hpb
  have HZZ := Lib.hid hzz
  have HSB := Lib.hid hsb
  have HBB := Lib.hid hbb
  have HFS := Lib.hid hfs
  have HFB := Lib.hid hfb
  clear q1 q2 q3 q4 q5 hKW hBW hW0 hfs hzz k1 k2 k3 p1 p2 p3 z1 z2 hfb hfi hhb
  refine wpIn_rangeFunc_ownF rfl hn (gf := 53) (lb := #[.pointer (some ⟨hb, 0, none⟩)]) rfl trivial (enters_of Tryd.func53 (by kernel_rfl) rfl)
    (names1_stops Fence.wide (3 - 1) trivial rfl (by decide) hb (hb + 1) fb (by have := HFS.out; omega) W0 (by omega) (by rw [Q5.out]; omega) Q4.out) belowK_t (belowK_b (by rw [Q5.out]; exact Nat.le_refl _)) (Below.refl _ _) (fun _ => rfl)
    (fun pre W => ((∀ y ∈ pre, SL.find y T = none) ∧ W.heap[pb]? = some (.cells #[.pointer (some ⟨tb, 0, none⟩)] 37 (0, 0)) ∧ W.heap[sb]? = some (.cells #[.string ⟨#[]⟩, .bool false, .int .u32 0, .int .u16 0] 35 (0, 0)) ∧ W.heap[bb]? = some (.cells #[.bool false] 4 (0, 0))) ∧ Below w.heap.size w W ∧ Below w.heap.size W0 W)
    (fun c pre W => (c = .ret ∧ ∃ (q : List ByteArray) (y : ByteArray) (x : PR), pre = q ++ [y] ∧ (∀ z ∈ q, SL.find z T = none) ∧ SL.find y T = some x ∧ W.heap[sb]? = some (.cells #[.string x.name, .bool x.deny, .int .u32 x.addr, .int .u16 x.port] 35 (0, 0)) ∧ W.heap[bb]? = some (.cells #[.bool true] 4 (0, 0))) ∧ Below w.heap.size w W)
    (OwnFrom.and (Own.from (fun s A B row hs hg hr => ⟨hs.1, block_kept hs.2.1 hg hr, block_kept hs.2.2.1 hg hr, block_kept hs.2.2.2 hg hr⟩) _) (OwnFrom.and (ownFrom_below (Nat.le_refl _) HBW.out.size) (ownFrom_below HBW.out.size HBW.out.size)))
    (fun c => OwnFrom.and (Own.from (fun s A B row hs hg hr => ⟨hs.1, by
      obtain ⟨q, y, x, h1, h2, h3, h4, h5⟩ := hs.2
      exact ⟨q, y, x, h1, h2, h3, block_kept h4 hg hr, block_kept h5 hg hr⟩⟩) _) (ownFrom_below (Nat.le_refl _) HBW.out.size))
    ⟨⟨by simp, Q1.out, Q2.out, Q3.out⟩, HBW.out, Below.refl _ _⟩
    (fun x => { tmps := #[.pointer (some ⟨tb, 0, none⟩), .string name, .pointer (some ⟨pb, 0, none⟩), undef, .pointer (some ⟨sb, 0, none⟩), .pointer (some ⟨bb, 0, none⟩), .string fb, .bool fi, .string x, undef, undef, .pointer (some ⟨tb, 0, none⟩), .bool false, undef, .tuple #[.string fb, .bool fi], .string name, .tuple #[.string fb, .bool fi], .string fb, .bool fi, .string fb, .func (.func 53) #[] #[.pointer (some ⟨hb, 0, none⟩)], .string x, undef, undef, undef, undef, undef, undef, undef, undef, undef, undef, undef, undef], defers := [] }) ?assign ?body ?done ?stop
  case assign =>
    intro l x W K hK
    gi_wp2
    exact hK
  case body =>
    rintro l pre y W ⟨⟨hp, h1, h2, h3⟩, hB, hbs⟩ _
    have hta : TabAt W tb mb T := HT.out.keep0 (Below.keeps hB)
    have c0 : W.cell? ⟨pb, 0, none⟩ = some (.pointer (some ⟨tb, 0, none⟩)) := cell_of_block h1 0
    have ct : W.cell? ⟨tb, 0, none⟩ = some (.map (some mb)) := cell_of_block hta.head 0
    have hlk := hta.map.look (P := Tryd.prog) (t := 67) Tryd.underlying67 Tryd.underlying9 Tryd.zeroValue35 y W rfl true
    cases hf : SL.find y T with
    | none =>
      rw [hf] at hlk
      simp only [Option.map_none, Option.getD_none, Option.isSome_none, if_true] at hlk
      gi_wp2
      have hz1 : hb + 1 ≤ W.heap.size := by have := hbs.size; rw [Q5.out] at this; omega
      refine ⟨KeepsOthers.alloc _ _, (Below.refl _ _).alloc hz1 _, ⟨fun z hz => ?_, ?_, ?_, ?_⟩, hB.alloc hB.size _, hbs.alloc (Nat.le_trans HBW.out.size hbs.size) _⟩
      · rcases List.mem_append.1 hz with h | h
        · exact hp z h
        · simp at h; subst h; exact hf
      · exact (Below.heap_alloc _ _ _ (lt_of_block h1)).trans h1
      · exact (Below.heap_alloc _ _ _ (lt_of_block h2)).trans h2
      · exact (Below.heap_alloc _ _ _ (lt_of_block h3)).trans h3
    | some x =>
      rw [hf] at hlk
      simp only [Option.map_some, Option.getD_some, Option.isSome_some, if_true, encPR] at hlk
      have s0 : W.cell? ⟨sb, 0, none⟩ = some (.string ⟨#[]⟩) := cell_of_block h2 0
      have s1 : W.cell? ⟨sb, 1, none⟩ = some (.bool false) := cell_of_block h2 1
      have s2 : W.cell? ⟨sb, 2, none⟩ = some (.int .u32 0) := cell_of_block h2 2
      have s3 : W.cell? ⟨sb, 3, none⟩ = some (.int .u16 0) := cell_of_block h2 3
      have s4 : W.cell? ⟨bb, 0, none⟩ = some (.bool false) := cell_of_block h3 0
      have f0 := free_of_block h2 0
      have f1 := free_of_block h2 1
      have f2 := free_of_block h2 2
      have f3 := free_of_block h2 3
      have f4 := free_of_block h3 0
      have hal : ∀ (a : Addr) (v : Value), W.cell? a = some v → (W.alloc (.cells #[.string x.name, .bool x.deny, .int .u32 x.addr, .int .u16 x.port] 35)).cell? a = some v := fun a v ha => (World.cell?_of_block (Below.heap_alloc _ _ _ (World.block_lt_of_cell? W a ha))).trans ha
      have fal : ∀ (b k : Nat), b < W.heap.size → W.frozen? ⟨b, k, none⟩ = false → (W.alloc (.cells #[.string x.name, .bool x.deny, .int .u32 x.addr, .int .u16 x.port] 35)).frozen? ⟨b, k, none⟩ = false := fun b k hb hf => by
        rw [← hf]; unfold World.frozen?; rw [Below.heap_alloc _ _ _ hb]
      have m2 := lt_of_block h2
      have m3 := lt_of_block h3
      have s0' := hal _ _ s0
      have s1' := hal _ _ s1
      have s2' := hal _ _ s2
      have s3' := hal _ _ s3
      have s4' := hal _ _ s4
      have f0' := fal _ _ m2 f0
      have f1' := fal _ _ m2 f1
      have f2' := fal _ _ m2 f2
      have f3' := fal _ _ m2 f3
      have f4' := fal _ _ m3 f4
      have n1 : ¬ sb = bb := by have := HBB.out; omega
      clear hal fal
      have HF := Lib.hid hf
      have HP := Lib.hid hp
      have H2 := Lib.hid h2
      have H3 := Lib.hid h3
      have HB := Lib.hid hB
      clear hf hp h2 h3 hB hbs h1
      gi_wp2
      have hne : ¬ sb = bb := n1
      have g1 := heap_setCell_self H2.out 0 (.string x.name)
      have g2 := heap_setCell_self g1 1 (.bool x.deny)
      have g3 := heap_setCell_self g2 2 (.int .u32 x.addr)
      have g4 := heap_setCell_self g3 3 (.int .u16 x.port)
      have g5 := (Below.heap_setCell _ ⟨bb, 0, none⟩ (.bool true) sb (by intro e; simp at e; omega)).trans g4
      have b4 := (Below.heap_setCell _ ⟨sb, 3, none⟩ (.int .u16 x.port) bb (by intro e; simp at e; omega)).trans ((Below.heap_setCell _ ⟨sb, 2, none⟩ (.int .u32 x.addr) bb (by intro e; simp at e; omega)).trans ((Below.heap_setCell _ ⟨sb, 1, none⟩ (.bool x.deny) bb (by intro e; simp at e; omega)).trans ((Below.heap_setCell _ ⟨sb, 0, none⟩ (.string x.name) bb (by intro e; simp at e; omega)).trans H3.out)))
      have b5 := heap_setCell_self b4 0 (.bool true)
      have hsz := HB.out.size
      have e1 : w.heap.size ≤ sb := by have := HPB.out; have := HSB.out; omega
      have e2 : w.heap.size ≤ bb := by have := HBB.out; omega
      refine ⟨(((((KeepsOthers.setCell _ _ _).trans (KeepsOthers.setCell _ _ _)).trans (KeepsOthers.setCell _ _ _)).trans (KeepsOthers.setCell _ _ _)).trans (KeepsOthers.setCell _ _ _)).trans (KeepsOthers.alloc _ _), ⟨rfl, pre, y, x, rfl, HP.out, HF.out, ?_, ?_⟩, ?_⟩
      · exact (Below.heap_alloc _ _ _ (lt_of_block g5)).trans g5
      · exact (Below.heap_alloc _ _ _ (lt_of_block b5)).trans b5
      · have B5 := ((((HB.out.setCell (p := ⟨sb, 0, none⟩) e1 (.string x.name)).setCell (p := ⟨sb, 1, none⟩) e1 (.bool x.deny)).setCell (p := ⟨sb, 2, none⟩) e1 (.int .u32 x.addr)).setCell (p := ⟨sb, 3, none⟩) e1 (.int .u16 x.port)).setCell (p := ⟨bb, 0, none⟩) e2 (.bool true)
        exact B5.alloc B5.size _
  case done =>
    rintro D ys W hD rfl ⟨⟨hne, h1, h2, h3⟩, hB, hbs⟩ hK
    have hfn := findT_none hne
    have s0 : W.cell? ⟨sb, 0, none⟩ = some (.string ⟨#[]⟩) := cell_of_block h2 0
    have s1 : W.cell? ⟨sb, 1, none⟩ = some (.bool false) := cell_of_block h2 1
    have s2 : W.cell? ⟨sb, 2, none⟩ = some (.int .u32 0) := cell_of_block h2 2
    have s3 : W.cell? ⟨sb, 3, none⟩ = some (.int .u16 0) := cell_of_block h2 3
    have s4 : W.cell? ⟨bb, 0, none⟩ = some (.bool false) := cell_of_block h3 0
    have f0 := free_of_block h2 0
    have f1 := free_of_block h2 1
    have f2 := free_of_block h2 2
    have f3 := free_of_block h2 3
    have f4 := free_of_block h3 0
    have n1 : ¬ sb = bb := by have := HBB.out; omega
    have HFN := Lib.hid hfn
    have H2 := Lib.hid h2
    have H3 := Lib.hid h3
    have HB := Lib.hid hB
    have HKD := Lib.hid hK
    have HDD := Lib.hid (show w.heap.size ≤ D from Nat.le_trans HBW.out.size hD)
    clear hfn h1 h2 h3 hB hbs hK hne
    gi_wp2
    have hne : ¬ sb = bb := n1
    have g1 := heap_setCell_self H2.out 0 (.string ⟨#[]⟩)
    have g2 := heap_setCell_self g1 1 (.bool false)
    have g3 := heap_setCell_self g2 2 (.int .u32 0)
    have g4 := heap_setCell_self g3 3 (.int .u16 0)
    have g5 := (Below.heap_setCell _ ⟨bb, 0, none⟩ (.bool false) sb (by intro e; simp at e; omega)).trans g4
    have b4 := (Below.heap_setCell _ ⟨sb, 3, none⟩ (.int .u16 0) bb (by intro e; simp at e; omega)).trans ((Below.heap_setCell _ ⟨sb, 2, none⟩ (.int .u32 0) bb (by intro e; simp at e; omega)).trans ((Below.heap_setCell _ ⟨sb, 1, none⟩ (.bool false) bb (by intro e; simp at e; omega)).trans ((Below.heap_setCell _ ⟨sb, 0, none⟩ (.string ⟨#[]⟩) bb (by intro e; simp at e; omega)).trans H3.out)))
    have b5 := heap_setCell_self b4 0 (.bool false)
    have hsz := HB.out.size
    have e1 : w.heap.size ≤ sb := by have := HPB.out; have := HSB.out; omega
    have e2 : w.heap.size ≤ bb := by have := HBB.out; omega
    have B5 := ((((HB.out.setCell (p := ⟨sb, 0, none⟩) e1 (.string ⟨#[]⟩)).setCell (p := ⟨sb, 1, none⟩) e1 (.bool false)).setCell (p := ⟨sb, 2, none⟩) e1 (.int .u32 0)).setCell (p := ⟨sb, 3, none⟩) e1 (.int .u16 0)).setCell (p := ⟨bb, 0, none⟩) e2 (.bool false)
    have hK' := (((((KeepsOthers.setCell W ⟨sb, 0, none⟩ (.string ⟨#[]⟩)).trans (KeepsOthers.setCell _ ⟨sb, 1, none⟩ (.bool false))).trans (KeepsOthers.setCell _ ⟨sb, 2, none⟩ (.int .u32 0))).trans (KeepsOthers.setCell _ ⟨sb, 3, none⟩ (.int .u16 0))).trans (KeepsOthers.setCell _ ⟨bb, 0, none⟩ (.bool false))).same D _ HKD.out rfl
    have g6 := block_kept g5 (grownBy_putObj' _ D (.deferred none)) (fun r e => by cases e; exact ⟨_, hK', rfl⟩)
    have b6 := block_kept b5 (grownBy_putObj' _ D (.deferred none)) (fun r e => by cases e; exact ⟨_, hK', rfl⟩)
    have r0 := cell_of_block g6 0
    have r1 := cell_of_block g6 1
    have r2 := cell_of_block g6 2
    have r3 := cell_of_block g6 3
    have r4 := cell_of_block b6 0
    simp at r0 r1 r2 r3 r4
    refine ⟨by simp, .inl ⟨_, _, rfl, run_takeDeferred hK', ?_⟩⟩
    refine ⟨.tuple #[.agg #[.string ⟨#[]⟩, .bool false, .int .u32 0, .int .u16 0], .bool false], ?_, ?_, ?_⟩
    · simp [results, Tryd.results13, go_sem, r0, r1, r2, r3, r4]
    · rw [HFB.out, HFN.out]; rfl
    · exact Below.keeps (B5.trans (belowK_b (w := w) (Nat.le_refl _) _ D _ _ HDD.out hK' rfl rfl))
  case stop =>
    rintro D c pre W hD hpre ⟨⟨rfl, q, y, x, h1, h2, h3, h4, h5⟩, hB⟩ hK
    have hfs := findT_some (by rw [← h1]; exact hpre) h2 h3
    have HFN := Lib.hid hfs
    have HDD := Lib.hid (show w.heap.size ≤ D from Nat.le_trans HBW.out.size hD)
    clear hfs
    gi_wp2
    have g6 := block_kept h4 (grownBy_putObj' _ D (.deferred none)) (fun r e => by cases e; exact ⟨_, hK, rfl⟩)
    have b6 := block_kept h5 (grownBy_putObj' _ D (.deferred none)) (fun r e => by cases e; exact ⟨_, hK, rfl⟩)
    have r0 := cell_of_block g6 0
    have r1 := cell_of_block g6 1
    have r2 := cell_of_block g6 2
    have r3 := cell_of_block g6 3
    have r4 := cell_of_block b6 0
    simp at r0 r1 r2 r3 r4
    refine ⟨by simp, .inl ⟨_, _, rfl, run_takeDeferred hK, ?_⟩⟩
    refine ⟨.tuple #[.agg #[.string x.name, .bool x.deny, .int .u32 x.addr, .int .u16 x.port], .bool true], ?_, ?_, ?_⟩
    · simp [results, Tryd.results13, go_sem, r0, r1, r2, r3, r4]
    · rw [HFB.out, HFN.out]; rfl
    · exact Below.keeps (hB.trans (belowK_b (w := w) (Nat.le_refl _) _ D _ _ HDD.out hK rfl rfl))
end Go.Proofs.YtbmkdnkiojapbaaDoor
