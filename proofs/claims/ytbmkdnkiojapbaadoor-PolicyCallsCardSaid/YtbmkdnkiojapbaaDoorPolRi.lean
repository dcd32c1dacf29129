/-
  The walks of the document's Find and Where. Condition: the rules may stand together, and lie in memory as the slice says.
-/
import Derived.Test.YtbmkdnkiojapbaaDoorPolRh
import Derived.Test.YtbmkdnkiojapbaaDoorPolRf
namespace Go.Proofs.YtbmkdnkiojapbaaDoor
open Go.RowKit Go.Lib
set_option linter.unusedVariables false
set_option linter.unusedSimpArgs false

/-- the best so far: place, rule -/
def Best (l : List PR) (g : ByteArray) (i : Nat) (bst : Int) : Prop :=
  (bst = -1 ∧ ∀ y ∈ l.take i, ¬ 0 < catchL y.name g) ∨ ∃ (j : Nat) (x : PR), bst = j ∧ j < i ∧ l[j]? = some x ∧ 0 < catchL x.name g ∧ ∀ y ∈ l.take i, catchL y.name g ≤ catchL x.name g
theorem take_next {l : List PR} {i : Nat} {x : PR} (h : l[i]? = some x) {P : PR → Prop} (h1 : ∀ y ∈ l.take i, P y) (h2 : P x) : ∀ y ∈ l.take (i + 1), P y := by
  intro y hy
  rw [List.take_add_one, h] at hy
  rcases List.mem_append.1 hy with hy | hy
  · exact h1 y hy
  · simp at hy; subst hy; exact h2
set_option maxRecDepth 100000 in
set_option maxHeartbeats 8000000 in
theorem rfind_any (w : World) (A : Option Addr) (n k : Nat) (c : PC) (l : List PR) (hn : l.length = n) (hm : mayL c l = true) (hl : RulesAt w A l) (name : ByteArray) :
    Calls Tryd.prog 20 #[.slice A n k, .string name] w fun e w' => e = .returned (.tuple #[encPR ((findT (tabL l) (foldB name)).getD zeroPR), .bool (findT (tabL l) (foldB name)).isSome]) ∧ Keeps [] w w' := by
  have hmi := (mayL_iff c l).1 hm
  have HF := Lib.hid (fun (W : World) => rfold_any W name)
  have hfo := fold_or name
  have hfs : (foldB name).size ≤ 1000000 := by
    rcases hfo with h | h
    · have := h.le; omega
    · rw [h]; show 0 ≤ _; omega
  obtain ⟨g, hg⟩ : ∃ g, foldB name = g := ⟨_, rfl⟩
  obtain ⟨fi, hfi⟩ : ∃ fi, foldIs name = fi := ⟨_, rfl⟩
  rw [hg, hfi] at HF
  rw [hg] at hfo hfs ⊢
  obtain ⟨fr, hfr⟩ : ∃ fr, findT (tabL l) g = fr := ⟨_, rfl⟩
  obtain ⟨⟨xn, xd, xa, xp⟩, hxr⟩ : ∃ x, fr.getD zeroPR = x := ⟨_, rfl⟩
  obtain ⟨pr, hpr⟩ : ∃ p, fr.isSome = p := ⟨_, rfl⟩
  rw [hfr, hxr, hpr]
  have HRES := Lib.hid (And.intro hfr (And.intro hxr hpr))
  unfold encPR
  clear hfr hxr hpr
  have hb : n ≤ 256 := by rw [← hn]; exact hmi.2.2
  have HFO := Lib.hid hfo
  have HN := Lib.hid (And.intro hn (And.intro hb hmi.2.1))
  have HL := Lib.hid (fun (W : World) (kz : Keeps [] w W) => hl.keep0 kz)
  have HCA := Lib.hid (fun (W : World) (x : PR) (hx : x ∈ l) => catch_any W x.name g (by have := named_size (hmi.1 x hx).1; omega) hfs)
  have hal := (MapKept.heap_alloc w (.cells #[.string ⟨#[]⟩, .bool false, .int .u32 0, .int .u16 0] 35)).1
  obtain ⟨rb, hrb⟩ : ∃ rb, w.heap.size = rb := ⟨_, rfl⟩
  have k1 : Keeps [] w (w.alloc (.cells #[.string ⟨#[]⟩, .bool false, .int .u32 0, .int .u16 0] 35)) := Keeps.alloc [] w _
  rw [hrb] at hal
  have HAL := Lib.hid hal
  have K1 := Lib.hid k1
  have HRB := Lib.hid hrb
  clear hm hmi hfo hfs hg hfi hn hl hal k1 hb
  go_enter Tryd.func20, Tryd.ntmps20
  go_wp2_with fail
  refine (HF.out _).mono ?_
  rintro e w2 ⟨rfl, k2⟩
  have K2 := Lib.hid (K1.out.trans k2)
  have HB2 := Lib.hid ((k2.block rb (lt_of_block HAL.out) (by simp)).trans HAL.out)
  clear k2 K1 HAL hrb
  go_wp2_with fail
  go_loopw [8, 9] (fun bv iv wr => ∃ (i : Nat) (bst : Int), iv = .int .i64 i ∧ bv = .int .i64 bst ∧ i ≤ n ∧ w2 = wr ∧ Hid (Best l g i bst)) (fun _ iv _ => n - (intOf iv).toNat)
  case atStart => exact ⟨0, -1, rfl, rfl, by omega, rfl, Lib.hid (.inl ⟨rfl, by simp⟩)⟩
  case round =>
    obtain ⟨i, bst, rfl, rfl, hi, hww, HI⟩ := hrel
    obtain rfl := hww
    have hn256 : n ≤ 256 := HN.out.2.1
    by_cases hlt : i < n
    · have hlt' : (i : Int) < n := by omega
      have hi0 : (0 : Int) ≤ i := by omega
      obtain ⟨x, hx⟩ : ∃ x, l[i]? = some x := ⟨_, List.getElem?_eq_getElem (by rw [HN.out.1]; exact hlt)⟩
      have hne : ¬ l = [] := by rintro rfl; simp at hx
      obtain ⟨b, o, rfl, hc⟩ := (HL.out _ K2.out).resolve_left hne
      have c0 := (hc i x hx).1
      have HX := Lib.hid hx
      have HCX := Lib.hid (HCA.out w2 x (List.mem_of_getElem? hx))
      obtain ⟨cv, hcv⟩ : ∃ cv, catchL x.name g = cv := ⟨_, rfl⟩
      rw [hcv] at HCX
      have HCV := Lib.hid hcv
      clear hne hcv
      by_cases hpos : 0 < cv
      · rcases HI.out with ⟨rfl, hno⟩ | ⟨j, y, rfl, hj, hy, hyp, hmx⟩
        · have HEND := Lib.hid (show Best l g (i + 1) (i : Nat) from .inr ⟨i, x, rfl, by omega, HX.out, by rw [HCV.out]; exact hpos, take_next HX.out (fun z hz => by have := hno z hz; rw [HCV.out]; omega) (Int.le_refl _)⟩)
          clear hx hc hno
          go_wp2_with fail
          refine HCX.out.mono ?_
          rintro e w3 ⟨rfl, h3⟩
          obtain rfl := h3.symm
          go_wp2_with fail
          exact ⟨⟨i + 1, i, by simp, rfl, by omega, trivial, HEND⟩, by simp [intOf]; omega⟩
        · have d0 := (hc j y hy).1
          have HCY := Lib.hid (HCA.out w2 y (List.mem_of_getElem? hy))
          obtain ⟨cy, hcy⟩ : ∃ cy, catchL y.name g = cy := ⟨_, rfl⟩
          rw [hcy] at HCY hyp hmx
          have hj0 : ¬ (j : Int) < 0 := by omega
          have hj1 : (j : Int) < n := by omega
          have hj2 : (0 : Int) ≤ j := by omega
          by_cases hgt : cy < cv
          · have HEND := Lib.hid (show Best l g (i + 1) (i : Nat) from .inr ⟨i, x, rfl, by omega, HX.out, by rw [HCV.out]; exact hpos, take_next HX.out (fun z hz => by have := hmx z hz; rw [HCV.out]; omega) (Int.le_refl _)⟩)
            clear hx hc hmx hy hcy
            go_wp2_with fail
            refine HCX.out.mono ?_
            rintro e w3 ⟨rfl, h3⟩
            obtain rfl := h3.symm
            go_wp2_with fail
            refine HCY.out.mono ?_
            rintro e w3 ⟨rfl, h3⟩
            obtain rfl := h3.symm
            go_wp2_with fail
            exact ⟨⟨i + 1, i, by simp, rfl, by omega, trivial, HEND⟩, by simp [intOf]; omega⟩
          · have HEND := Lib.hid (show Best l g (i + 1) (j : Nat) from .inr ⟨j, y, rfl, by omega, hy, by rw [hcy]; exact hyp, take_next HX.out (fun z hz => by have := hmx z hz; rw [hcy]; omega) (by rw [HCV.out, hcy]; omega)⟩)
            clear hx hc hmx hy hcy
            go_wp2_with fail
            refine HCX.out.mono ?_
            rintro e w3 ⟨rfl, h3⟩
            obtain rfl := h3.symm
            go_wp2_with fail
            refine HCY.out.mono ?_
            rintro e w3 ⟨rfl, h3⟩
            obtain rfl := h3.symm
            go_wp2_with fail
            exact ⟨⟨i + 1, j, by simp, rfl, by omega, trivial, HEND⟩, by simp [intOf]; omega⟩
      · have HEND := Lib.hid (show Best l g (i + 1) bst from by
          rcases HI.out with ⟨rfl, hno⟩ | ⟨j, y, rfl, hj, hy, hyp, hmx⟩
          · exact .inl ⟨rfl, take_next HX.out hno (by rw [HCV.out]; exact hpos)⟩
          · exact .inr ⟨j, y, rfl, by omega, hy, hyp, take_next HX.out hmx (by rw [HCV.out]; omega)⟩)
        clear hx hc
        go_wp2_with fail
        refine HCX.out.mono ?_
        rintro e w3 ⟨rfl, h3⟩
        obtain rfl := h3.symm
        go_wp2_with fail
        exact ⟨⟨i + 1, bst, by simp, rfl, by omega, trivial, HEND⟩, by simp [intOf]; omega⟩
    · obtain rfl : i = n := by omega
      have hlt' : ¬ (i : Int) < (i : Int) := by omega
      have htk : l.take i = l := List.take_of_length_le (by rw [HN.out.1]; exact Nat.le_refl _)
      have q0 := cell_of_block HB2.out 0
      have q1 := cell_of_block HB2.out 1
      have q2 := cell_of_block HB2.out 2
      have q3 := cell_of_block HB2.out 3
      have f0 := free_of_block HB2.out 0
      have f1 := free_of_block HB2.out 1
      have f2 := free_of_block HB2.out 2
      have f3 := free_of_block HB2.out 3
      have hrw : w.heap.size ≤ rb := by rw [HRB.out]; exact Nat.le_refl _
      rcases HI.out with ⟨rfl, hno⟩ | ⟨j, ⟨yn, yd, ya, yp⟩, rfl, hj, hy, hyp, hmx⟩
      · rw [htk] at hno
        have e1 := HRES.out.1.symm.trans (find_no HN.out.2.2 HFO.out hno)
        have e2 := HRES.out.2.1
        have e3 := HRES.out.2.2
        rw [e1] at e2 e3
        have e4 : (⟨⟨#[]⟩, false, 0, 0⟩ : PR) = ⟨xn, xd, xa, xp⟩ := e2
        injection e4 with i1 i2 i3 i4
        subst i1 i2 i3 i4
        have e5 : false = pr := e3
        subst e5
        clear e1 e2 e3
        obtain ⟨hset, kset⟩ := rule_set HB2.out (.string ⟨#[]⟩) (.bool false) (.int .u32 0) (.int .u16 0)
        have HSET := Lib.hid (And.intro hset kset)
        clear hno htk hset kset
        go_wp2_with fail
        have r0 := cell_of_block HSET.out.1 0
        have r1 := cell_of_block HSET.out.1 1
        have r2 := cell_of_block HSET.out.1 2
        have r3 := cell_of_block HSET.out.1 3
        simp only [List.getElem?_toArray, List.getElem?_cons_zero, List.getElem?_cons_succ] at r0 r1 r2 r3
        refine bodyPost_ret (v := .tuple #[.agg #[.string ⟨#[]⟩, .bool false, .int .u32 0, .int .u16 0], .bool false]) (by simp [results, Tryd.results20, go_sem, r0, r1, r2, r3]) rfl ⟨rfl, ?_⟩
        exact ((K2.out.mono (T := [rb]) (by simp)).trans HSET.out.2).fresh (by intro y hy hlt; simp at hy; omega)
      · rw [htk] at hmx
        have e1 := HRES.out.1.symm.trans (find_best HN.out.2.2 HFO.out (List.mem_of_getElem? hy) hyp hmx)
        have e2 := HRES.out.2.1
        have e3 := HRES.out.2.2
        rw [e1] at e2 e3
        have e4 : (⟨yn, yd, ya, yp⟩ : PR) = ⟨xn, xd, xa, xp⟩ := e2
        injection e4 with i1 i2 i3 i4
        subst i1 i2 i3 i4
        have e5 : true = pr := e3
        subst e5
        clear e1 e2 e3
        obtain ⟨hset, kset⟩ := rule_set HB2.out (.string yn) (.bool yd) (.int .u32 ya) (.int .u16 yp)
        have HSET := Lib.hid (And.intro hset kset)
        have hne : ¬ l = [] := by rintro rfl; simp at hy
        obtain ⟨b, o, rfl, hc⟩ := (HL.out _ K2.out).resolve_left hne
        obtain ⟨d0, d1, d2, d3⟩ := hc j _ hy
        have hj0 : ¬ (j : Int) < 0 := by omega
        have hj1 : (j : Int) < i := by omega
        have hj2 : (0 : Int) ≤ j := by omega
        clear hmx htk hset kset hy hc hne hyp
        go_wp2_with fail
        have r0 := cell_of_block HSET.out.1 0
        have r1 := cell_of_block HSET.out.1 1
        have r2 := cell_of_block HSET.out.1 2
        have r3 := cell_of_block HSET.out.1 3
        simp only [List.getElem?_toArray, List.getElem?_cons_zero, List.getElem?_cons_succ] at r0 r1 r2 r3
        refine bodyPost_ret (v := .tuple #[.agg #[.string yn, .bool yd, .int .u32 ya, .int .u16 yp], .bool true]) (by simp [results, Tryd.results20, go_sem, r0, r1, r2, r3]) rfl ⟨rfl, ?_⟩
        exact ((K2.out.mono (T := [rb]) (by simp)).trans HSET.out.2).fresh (by intro y hy hlt; simp at hy; omega)
set_option maxRecDepth 100000 in
set_option maxHeartbeats 4000000 in
theorem rwhere_any (w : World) (A : Option Addr) (n k : Nat) (c : PC) (l : List PR) (hn : l.length = n) (hm : mayL c l = true) (hl : RulesAt w A l) (name : ByteArray) :
    Calls Tryd.prog 21 #[.slice A n k, .string name] w fun e w' => e = .returned (.tuple #[.int .u32 (whereT (findT (tabL l) (foldB name))).1, .int .u16 (whereT (findT (tabL l) (foldB name))).2.1, .int .i64 (whereT (findT (tabL l) (foldB name))).2.2]) ∧ Keeps [] w w' := by
  have HF := Lib.hid (rfind_any w A n k c l hn hm hl name)
  clear hn hm hl
  obtain ⟨o, ho⟩ : ∃ o, findT (tabL l) (foldB name) = o := ⟨_, rfl⟩
  rw [ho] at HF ⊢
  clear ho
  cases o with
  | none =>
    simp only [Option.getD_none, Option.isSome_none, encPR, zeroPR] at HF
    simp only [whereT]
    go_enter Tryd.func21, Tryd.ntmps21
    go_wp2_with fail
    refine HF.out.mono ?_
    rintro e w1 ⟨rfl, k1⟩
    have K1 := Lib.hid k1
    clear k1
    go_wp2_with fail
    refine bodyPost_ret (v := .tuple #[.int .u32 0, .int .u16 0, .int .i64 6]) (by simp [results, Tryd.results21, go_sem]) rfl ⟨rfl, K1.out.trans (Keeps.alloc _ _ _)⟩
  | some x =>
    obtain ⟨xn, xd, xa, xp⟩ := x
    simp only [Option.getD_some, Option.isSome_some, encPR] at HF
    cases xd with
    | true =>
      simp only [whereT, if_true]
      go_enter Tryd.func21, Tryd.ntmps21
      go_wp2_with fail
      refine HF.out.mono ?_
      rintro e w1 ⟨rfl, k1⟩
      have K1 := Lib.hid k1
      clear k1
      go_wp2_with fail
      refine bodyPost_ret (v := .tuple #[.int .u32 0, .int .u16 0, .int .i64 26]) (by simp [results, Tryd.results21, go_sem]) rfl ⟨rfl, K1.out.trans (Keeps.alloc _ _ _)⟩
    | false =>
      simp only [whereT, if_neg (by decide : ¬ (false = true))]
      go_enter Tryd.func21, Tryd.ntmps21
      go_wp2_with fail
      refine HF.out.mono ?_
      rintro e w1 ⟨rfl, k1⟩
      have K1 := Lib.hid k1
      clear k1
      go_wp2_with fail
      refine wp_gn fun wg hwg => ?_
      have kg : Keeps [] w1 wg := by rw [hwg]; exact Keeps.alloc [] w1 _
      have hb1 : wg.heap[w1.heap.size]? = some (.cells #[.string xn, .bool false, .int .u32 xa, .int .u16 xp] 35 (0, 0)) := by rw [hwg]; exact (MapKept.heap_alloc w1 _).1
      obtain ⟨nb, hnb⟩ : ∃ nb, w1.heap.size = nb := ⟨_, rfl⟩
      rw [hnb] at hb1 ⊢
      have S1 := Lib.hid (show wg.drew.cell? ⟨nb, 2, none⟩ = some (.int .u32 xa) ∧ wg.drew.cell? ⟨nb, 3, none⟩ = some (.int .u16 xp) from ⟨cell_of_block (w := wg.drew) hb1 2, cell_of_block (w := wg.drew) hb1 3⟩)
      have KG := Lib.hid (K1.out.trans kg)
      clear hwg kg hb1 hnb
      go_region_held3 (fun w' => w'.cell? ⟨nb, 2, none⟩ = some (.int .u32 xa) ∧ w'.cell? ⟨nb, 3, none⟩ = some (.int .u16 xp))
        (exact S1.out)
        (fail)
      go_wp2_with fail
      refine bodyPost_ret (v := .tuple #[.int .u32 xa, .int .u16 xp, .int .i64 0]) (by simp [results, Tryd.results21, go_sem]) rfl ⟨rfl, KG.out.trans (Keeps.drew _ _)⟩
end Go.Proofs.YtbmkdnkiojapbaaDoor
