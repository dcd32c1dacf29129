/-
  The walks of package endp towards a server (12): rows of options; the SYN with all three options. Condition: as Ack's.
-/
import Derived.Test.YtakgohocimlagaaGreatEsQ
import Derived.Test.YtakgohocimlagaaGreatOptF
namespace Go.Proofs.YtakgohocimlagaaGreat
open Go.RowKit Go.Lib
set_option linter.unusedVariables false
set_option linter.unusedSimpArgs false

/-- an option as it lies -/
structure OC where
  k : UInt8
  A : Option Addr
  n : Nat
  c : Nat
def cellsO (x : OC) : List Value := [u8V x.k, .slice x.A x.n x.c]
def optK : EK OC := ⟨cellsO, 2, fun _ => rfl, by decide, fun x u h => by
  simp only [cellsO, List.mem_cons, List.not_mem_nil, or_false] at h
  rcases h with rfl | rfl <;> rfl⟩
theorem Tryz.infoOpt : (Tryz.prog.info? 60).map (fun i => (i.zero, i.size, i.bytes)) = some (some (.agg #[.int .u8 0, .slice none 0 0]), 2, 32) := by kernel_rfl
theorem EK.own_block {α : Type} {e : EK α} {w : World} {g : Nat} {el : TypeId} {cs : Array Value} {l : List α} (h : w.heap[g]? = some (.cells cs el (0, 0))) (hs : cs.toList = e.row l) (hm : l.length ≤ maxLen) : e.Own w g el (.slice (some ⟨g, 0, none⟩) l.length l.length) l :=
  ⟨e.row_len l, .inr ⟨g, l.length, cs, rfl, Nat.le_refl _, h, Nat.le_refl _, hm, by rw [← Array.length_toList, hs, e.row_len], by rw [hs]; exact List.take_of_length_le (by rw [e.row_len]; exact Nat.le_refl _)⟩⟩
theorem EK.at_block {α : Type} {e : EK α} {w : World} {g : Nat} {cs : Array Value} {t : TypeId} {z : Nat × Nat} {x : α} (h : w.heap[g]? = some (.cells cs t z)) (hs : cs.toList = e.cf x) : e.At w (some ⟨g, 0, none⟩) [x] := by
  refine .inr ⟨g, 0, rfl, fun i y hy j u hu => ?_⟩
  have hi : i = 0 := by have := (List.getElem?_eq_some_iff.1 hy).1; simp at this; exact this
  subst hi
  simp at hy
  subst hy
  rw [← hs] at hu
  rw [show (⟨g, 0 + 0 * e.sz + j, none⟩ : Addr) = ⟨g, j, none⟩ by simp, cell_of_block h j]
  simpa using hu
/-- the options' bytes lie as told, none where the row itself lies, all behind lo -/
def OpsV (w : World) (own : Option Nat) (lo : Nat) (l : List OC) (os : List O) : Prop :=
  l.length = os.length ∧ ∀ (i : Nat) (x : OC) (o : O), l[i]? = some x → os[i]? = some o → x.k = o.1 ∧ x.n = o.2.length ∧ BytesV w (.slice x.A x.n x.c) o.2 ∧ (∀ a, x.A = some a → own ≠ some a.block ∧ a.block < w.heap.size ∧ lo < a.block)
theorem OpsV.nil (w : World) (own : Option Nat) (lo : Nat) : OpsV w own lo [] [] := ⟨rfl, fun i x p h => by simp at h⟩
theorem OpsV.keep0 {w w' : World} {own : Option Nat} {lo : Nat} {l : List OC} {os : List O} (h : OpsV w own lo l os) (k : Keeps [] w w') : OpsV w' own lo l os :=
  ⟨h.1, fun i x p hx hp => by obtain ⟨h1, h2, h3, h4⟩ := h.2 i x p hx hp; exact ⟨h1, h2, h3.keep0 k, fun a ha => ⟨(h4 a ha).1, Nat.lt_of_lt_of_le (h4 a ha).2.1 k.size, (h4 a ha).2.2⟩⟩⟩
theorem OpsV.keepb {w w' : World} {own : Option Nat} {lo b : Nat} {l : List OC} {os : List O} (h : OpsV w own lo l os) (k : Keeps [b] w w') (hb : b ≤ lo) : OpsV w' own lo l os :=
  ⟨h.1, fun i x p hx hp => by obtain ⟨h1, h2, h3, h4⟩ := h.2 i x p hx hp; exact ⟨h1, h2, h3.keepF k (fun a ha hm => by have := (h4 a ha).2.2; simp at hm; omega), fun a ha => ⟨(h4 a ha).1, Nat.lt_of_lt_of_le (h4 a ha).2.1 k.size, (h4 a ha).2.2⟩⟩⟩
theorem OpsV.grown {w w' : World} {own own' : Option Nat} {lo : Nat} {l : List OC} {os : List O} (h : OpsV w own lo l os) (g : w.grownBy w' own) (hat : own' = own ∨ own' = some w.heap.size) : OpsV w' own' lo l os :=
  ⟨h.1, fun i x p hx hp => by
    obtain ⟨h1, h2, h3, h4⟩ := h.2 i x p hx hp
    refine ⟨h1, h2, h3.grown g (fun a ha => (h4 a ha).1), fun a ha => ⟨?_, Nat.lt_of_lt_of_le (h4 a ha).2.1 g.size, (h4 a ha).2.2⟩⟩
    rcases hat with e | e
    · rw [e]; exact (h4 a ha).1
    · rw [e]
      intro he
      have := (h4 a ha).2.1
      simp at he
      omega⟩
theorem OpsV.snoc {w : World} {own : Option Nat} {lo : Nat} {l : List OC} {os : List O} {x : OC} {o : O} (h : OpsV w own lo l os) (h1 : x.k = o.1) (h2 : x.n = o.2.length) (h3 : BytesV w (.slice x.A x.n x.c) o.2) (h4 : ∀ a, x.A = some a → own ≠ some a.block ∧ a.block < w.heap.size ∧ lo < a.block) : OpsV w own lo (l ++ [x]) (os ++ [o]) := by
  refine ⟨by simp [h.1], fun i y q hy hq => ?_⟩
  by_cases hi : i < l.length
  · rw [List.getElem?_append_left hi] at hy
    rw [List.getElem?_append_left (by rw [← h.1]; exact hi)] at hq
    exact h.2 i y q hy hq
  · rw [List.getElem?_append_right (by omega)] at hy
    rw [List.getElem?_append_right (by rw [← h.1]; omega)] at hq
    have e0 : i - l.length = 0 := by
      have := (List.getElem?_eq_some_iff.1 hy).1
      simp at this
      exact this
    rw [← h.1] at hq
    rw [e0] at hy hq
    simp at hy hq
    subst hy hq
    exact ⟨h1, h2, h3, h4⟩
theorem OpsV.opts {w : World} {base lo : Nat} {el : TypeId} {v : Value} {l : List OC} {os : List O} (own : optK.Own w base el v l) (h : OpsV w v.ownBlock lo l os) : ∃ A c, v = .slice A os.length c ∧ OptsV w (.slice A os.length c) os := by
  obtain ⟨A, c, rfl, hat, hc1, hc2, _⟩ := EK.Own.at_ own
  refine ⟨A, c, by rw [h.1], A, c, rfl, by rw [← h.1]; exact hc1, hc2, fun hp => ?_⟩
  rcases hat with h0 | ⟨b, o, rfl, hc⟩
  · rw [← h.1, h0] at hp; simp at hp
  · refine ⟨b, o, rfl, fun i y hy => ?_⟩
    have hi : i < l.length := by rw [h.1]; exact (List.getElem?_eq_some_iff.1 hy).1
    have hx := List.getElem?_eq_getElem hi
    obtain ⟨h1, h2, h3, _⟩ := h.2 i _ _ hx hy
    have g0 := hc i _ hx 0 _ (show (optK.cf l[i])[0]? = some (u8V l[i].k) from rfl)
    have g1 := hc i _ hx 1 _ (show (optK.cf l[i])[1]? = some (.slice l[i].A l[i].n l[i].c) from rfl)
    rw [h1] at g0
    rw [h2] at g1 h3
    exact ⟨_, _, g0, g1, h3⟩

/-! ### options that are made, their bytes of the call's own -/
set_option maxHeartbeats 400000 in
theorem withMss_own (w : World) (n : Int) (n0 : 0 ≤ n) (n1 : n ≤ 65535) :
    Calls Tryz.prog 24 #[.int .u16 n] w fun e w' => ∃ A c, e = .returned (.agg #[.int .u8 2, .slice A 2 c]) ∧ w'.ownsRow w.heap.size 5 1 (.slice A 2 c) 2 ((put16 n).map u8V) ∧ Keeps [] w w' := by
  go_enter Tryz.func24, Tryz.ntmps24
  go_wp2_with fail
  refine (wu16_own _ none 0 0 [] n (BytesV.nil _) (by omega) n0 n1).mono ?_
  rintro e w1 ⟨v, rfl, ho, hk⟩
  obtain ⟨A, c, rfl⟩ := own_slice ho
  have HO := Lib.hid ho
  have HK := Lib.hid hk
  have hx := (HK.out.block w.heap.size (by simp) (by simp)).trans (MapKept.heap_alloc w _).1
  clear ho hk
  have z0 := free_of_block hx 0
  have z1 := free_of_block hx 1
  have c0 := cell_of_block hx 0
  have c1 := cell_of_block hx 1
  simp at c0 c1
  clear hx
  go_wp2_with fail
  refine bodyPost_ret (v := .agg #[.int .u8 2, .slice A 2 c]) (by simp [results, Tryz.results24, go_sem, c0, c1]) rfl ⟨A, c, rfl, ?_, ?_⟩
  · exact own_lower' (own_setCell (own_setCell HO.out _ _ (by simp)) _ _ (by simp)) (by simp)
  · exact (((Keeps.alloc [] w _).trans HK.out).setCell' (Or.inl (by simp)) _).setCell' (Or.inl (by simp)) _
def put8 (n : Int) : List UInt8 := [b8 n]
set_option maxRecDepth 100000 in
set_option maxHeartbeats 400000 in
theorem withScale_own (w : World) (n : Int) (n0 : 0 ≤ n) (n1 : n ≤ 14) :
    Calls Tryz.prog 77 #[.int .i64 n] w fun e w' => ∃ A c, e = .returned (.agg #[.int .u8 3, .slice A 1 c]) ∧ w'.ownsRow w.heap.size 5 1 (.slice A 1 c) 1 ((put8 n).map u8V) ∧ Keeps [] w w' := by
  obtain ⟨L, hL⟩ : ∃ L, put8 n = L := ⟨_, rfl⟩
  rw [hL]
  have HL := Lib.hid hL
  clear hL
  go_enter Tryz.func77, Tryz.ntmps77
  go_wp2_with fail
  refine (wu8_own _ none 0 0 [] (min (max n 0) 14) (BytesV.nil _) (by omega) (by omega) (by omega)).mono ?_
  rintro e w1 ⟨v, rfl, ho, hk⟩
  rw [List.nil_append, show [b8 (min (max n 0) 14)] = L by rw [show min (max n 0) 14 = n by omega]; exact HL.out] at ho
  simp only [List.length_nil, Nat.zero_add] at ho
  obtain ⟨A, c, rfl⟩ := own_slice ho
  have HO := Lib.hid ho
  have HK := Lib.hid hk
  have hx := (HK.out.block w.heap.size (by simp) (by simp)).trans (MapKept.heap_alloc w _).1
  clear ho hk
  have z0 := free_of_block hx 0
  have z1 := free_of_block hx 1
  have c0 := cell_of_block hx 0
  have c1 := cell_of_block hx 1
  simp at c0 c1
  clear hx
  go_wp2_with fail
  refine bodyPost_ret (v := .agg #[.int .u8 3, .slice A 1 c]) (by simp [results, Tryz.results77, go_sem, c0, c1]) rfl ⟨A, c, rfl, ?_, ?_⟩
  · exact own_lower' (own_setCell (own_setCell HO.out _ _ (by simp)) _ _ (by simp)) (by simp)
  · exact (((Keeps.alloc [] w _).trans HK.out).setCell' (Or.inl (by simp)) _).setCell' (Or.inl (by simp)) _

theorem heap_alloc_at {w : World} {n : Nat} (o : Obj) (h : w.heap.size = n) : (w.alloc o).heap[n]? = some o := by subst h; exact (MapKept.heap_alloc w o).1
/-- its SYN -/
def ES.synS (s : ES) : Seg := ⟨s.loc, s.rem, s.iss, 0, 2, 0, 0, [(2, put16 s.smss), (3, put8 s.sscl), (4, [])], []⟩
set_option maxRecDepth 100000 in
set_option maxHeartbeats 4000000 in
theorem esyn_ok {w : World} {x : Nat} {s : ES} (h : EndAt w x s) (m0 : 0 ≤ s.smss) (m1 : s.smss ≤ 65535) (h0 : 0 ≤ s.sscl) (h1 : s.sscl ≤ 14) (hsk : s.ssack = true) :
    Calls Tryz.prog 44 #[.pointer (some ⟨x, 0, none⟩)] w fun e w' => ∃ A c, e = .returned (segV s.synS (.slice A 3 c) (.slice none 0 0)) ∧ OptsV w' (.slice A 3 c) s.synS.ops ∧ Keeps [] w w' := by
  have H := Lib.hid h
  have HM := Lib.hid (fun W => withMss_own W s.smss m0 m1)
  have HS := Lib.hid (fun W => withScale_own W s.sscl h0 h1)
  have F := Lib.hid (show s.synS = ⟨s.loc, s.rem, s.iss, 0, 2, 0, 0, [(2, put16 s.smss), (3, put8 s.sscl), (4, [])], []⟩ from rfl)
  have HSK := Lib.hid hsk
  have hsc : decide (0 ≤ s.sscl) = true := decide_eq_true h0
  clear h m0 m1 h1 hsk
  go_enter Tryz.func44, Tryz.ntmps44
  go_wp2_with fail
  refine (ebare_any (H.out.keep0 (Keeps.alloc _ _ _))).mono ?_
  rintro e w1 ⟨rfl, k1⟩
  unfold ES.bare segV
  have hz := (k1.block w.heap.size (by simp) (by simp)).trans (MapKept.heap_alloc w _).1
  have K1 := Lib.hid ((Keeps.alloc [] w _).trans k1)
  have H1 := Lib.hid (H.out.keep0 K1.out)
  have HZ := Lib.hid hz
  have d2 := H1.out.c2
  have d3 := H1.out.c3
  have q2 := fun o => keeps_cell0 (o := o) d2
  have q3 := fun o => keeps_cell0 (o := o) d3
  clear k1 hz
  go_wp2_with fail
  refine (HM.out _).mono ?_
  rintro e w2 ⟨A, c, rfl, o2, k2⟩
  have hx2 := (k2.block w1.heap.size (by simp) (by simp)).trans (MapKept.heap_alloc w1 _).1
  have k12 : Keeps [] w1 w2 := (Keeps.alloc [] w1 _).trans k2
  have HX2 := Lib.hid hx2
  have K12 := Lib.hid k12
  have O2 := Lib.hid o2
  have hlt := (Array.getElem?_eq_some_iff.1 hx2).1
  clear k2 o2 d2 d3 q2 q3
  have hx2c0 := cell_of_block hx2 0
  have hx2c1 := cell_of_block hx2 1
  have hx2c2 := cell_of_block hx2 2
  have hx2c3 := cell_of_block hx2 3
  have hx2c4 := cell_of_block hx2 4
  have hx2c5 := cell_of_block hx2 5
  have hx2c6 := cell_of_block hx2 6
  have hx2c7 := cell_of_block hx2 7
  have hx2c8 := cell_of_block hx2 8
  simp at hx2c0 hx2c1 hx2c2 hx2c3 hx2c4 hx2c5 hx2c6 hx2c7 hx2c8
  have hx2f0 := free_of_block hx2 0
  have hx2f1 := free_of_block hx2 1
  have hx2f2 := free_of_block hx2 2
  have hx2f3 := free_of_block hx2 3
  have hx2f4 := free_of_block hx2 4
  have hx2f5 := free_of_block hx2 5
  have hx2f6 := free_of_block hx2 6
  have hx2f7 := free_of_block hx2 7
  have hx2f8 := free_of_block hx2 8
  clear hx2 k12
  go_upto_region 4 with fail
  refine wp_gn (fun W hW => ?_)
  obtain ⟨b3, hb3⟩ : ∃ b3, w1.heap.size = b3 := ⟨_, rfl⟩
  obtain ⟨b4, hb4⟩ : ∃ b4, w2.heap.size = b4 := ⟨_, rfl⟩
  have hx : W.heap[b3]? = some (.cells #[.int .u16 s.loc, .int .u16 s.rem, .int .u32 s.iss, .int .u32 0, .int .u8 2, .int .u16 0, .int .u16 0, .slice (some ⟨b4, 0, none⟩) 1 1, .slice none 0 0] 39 (0, 0)) := by
    rw [hW, ← hb3, ← hb4, Below.heap_alloc _ _ _ (by simpa using hlt)]; exact heap_setCell_self HX2.out 7 _
  have ho : W.heap[b4]? = some (.cells #[.int .u8 2, .slice A 2 c] 60 (0, 0)) := by
    rw [hW, ← hb4]; exact heap_alloc_at _ (by simp [World.setCell])
  have kW : Keeps [] w1 W := by rw [hW]; exact (K12.out.setCell' (Or.inl (by simp)) _).alloc' _
  have hz := (kW.block _ (Array.getElem?_eq_some_iff.1 HZ.out).1 (by simp)).trans HZ.out
  have OW : W.ownsRow (w1.heap.size + 1) 5 1 (.slice A 2 c) 2 ((put16 s.smss).map u8V) ∧ (∀ a, A = some a → a.block < b4) := by
    have o2 := O2.out
    rw [show (w1.alloc (.cells #[.int .u16 s.loc, .int .u16 s.rem, .int .u32 s.iss, .int .u32 0, .int .u8 2, .int .u16 0, .int .u16 0, .slice none 0 0, .slice none 0 0] 39)).heap.size = w1.heap.size + 1 by simp] at o2
    refine ⟨by rw [hW]; exact own_keeps (own_setCell o2 _ _ (Nat.lt_succ_self _)) (Keeps.alloc _ _ _), fun a ha => ?_⟩
    rw [← hb4]
    exact (o2.lt a.block (by rw [ha]; rfl)).2
  have own1 : optK.Own W b4 60 (.slice (some ⟨b4, 0, none⟩) 1 1) [⟨2, A, 2, c⟩] := EK.own_block ho rfl (by simp [maxLen])
  have ops1 : OpsV W (some b4) b3 [⟨2, A, 2, c⟩] [(2, put16 s.smss)] := (OpsV.nil W (some b4) b3).snoc rfl rfl (BytesV.of_own OW.1) (fun a ha => by
    have h1 := OW.2 a ha
    have h2 := lt_of_block ho
    have h3 := (OW.1.lt a.block (by rw [show A = some a from ha]; rfl)).1
    exact ⟨fun e => by cases e; omega, by omega, by omega⟩)
  have h34 : b3 < b4 := by rw [← hb3, ← hb4]; exact hlt
  have KW := Lib.hid (K1.out.trans kW)
  have HW := Lib.hid (H.out.keep0 KW.out)
  have OWN1 := Lib.hid own1
  have OPS1 := Lib.hid ops1
  have HXW := Lib.hid hx
  have HZW := Lib.hid hz
  have B3 := Lib.hid (show w.heap.size < b3 by rw [← hb3]; exact lt_of_block HZ.out)
  have hwlt := H.out.lt
  have c7 := cell_of_block hx 7
  have z7 := free_of_block hx 7
  simp at c7
  have c4 := HW.out.c4
  have hbs := lt_of_block hx
  have hbs4 := lt_of_block ho
  clear hW kW ho hx OW own1 ops1 hx2c0 hx2c1 hx2c2 hx2c3 hx2c4 hx2c5 hx2c6 hx2c7 hx2c8 hx2f0 hx2f1 hx2f2 hx2f3 hx2f4 hx2f5 hx2f6 hx2f7 hx2f8 hz HX2 O2 K12
  simp only [hb3, hb4]
  clear hb3 hb4
  go_upto_region 5 with fail
  go_cut [] from 27 to 37 (fun wx => ∃ v8, wx.heap[b3]? = some (.cells #[.int .u16 s.loc, .int .u16 s.rem, .int .u32 s.iss, .int .u32 0, .int .u8 2, .int .u16 0, .int .u16 0, v8, .slice none 0 0] 39 (0, 0)) ∧ (∃ l, optK.Own wx b4 60 v8 l ∧ OpsV wx v8.ownBlock b3 l [(2, put16 s.smss), (3, put8 s.sscl)]) ∧ Keeps [] w wx ∧ wx.heap[w.heap.size]? = some (.cells #[.int .u16 0, .int .u16 0, .int .u32 0, .int .u32 0, .int .u8 0, .int .u16 0, .int .u16 0, .slice none 0 0, .slice none 0 0] 39 (0, 0)))
  case first =>
    go_region_law
      (first
        | (refine step_append_E optK (.tmp 28) (.tmp 35) 36 60 b4 (by rfl) Tryz.underlying36 Tryz.infoOpt (by rfl) (by decide) (.slice (some ⟨b4, 0, none⟩) 1 1) [⟨2, A, 2, c⟩] (by rfl) (OWN1.out.keep0 (Keeps.trans kk6 (by (repeat (first | with_reducible assumption | with_reducible exact Keeps.refl _ _ | with_reducible apply Keeps.alloc' | with_reducible apply Keeps.drew' | with_reducible apply Keeps.drewN' | (with_reducible apply Keeps.setCell'; rotate_left; · simp)))))) (some ⟨w6.heap.size, 0, none⟩) 1 [⟨3, A6, 1, c6⟩] (by rfl) (EK.at_block (MapKept.heap_alloc w6 _).1 rfl) (fun h => by cases h) (by simp) (by have := kk6.size; simp; omega) ?_; intro v8 w8 own8 g8 at8; obtain ⟨A8, c8, rfl⟩ := own_slice own8; have kk8 : Keeps [b4] W w8 := ((kk6.trans (Keeps.alloc [] w6 _)).mono (by simp)).trans (Keeps.grown g8); have hx8 := (kk8.block b3 hbs (by simp; omega)).trans HXW.out; have z7 := free_of_block hx8 7; have c7 := cell_of_block hx8 7; simp at c7)
        | (go_simp; go_at_call 77; (with_reducible refine (HS.out _).mono ?_); rintro e w6 ⟨A6, c6, rfl, o6, k6⟩; have O6 := Lib.hid (own_lower' (B' := W.heap.size) o6 (Keeps.size (S := []) (w := W) (by (repeat (first | with_reducible assumption | with_reducible exact Keeps.refl _ _ | with_reducible apply Keeps.alloc' | with_reducible apply Keeps.drew' | with_reducible apply Keeps.drewN' | (with_reducible apply Keeps.setCell'; rotate_left; · simp)))))); have kk6 : Keeps [] W w6 := Keeps.trans (by (repeat (first | with_reducible assumption | with_reducible exact Keeps.refl _ _ | with_reducible apply Keeps.alloc' | with_reducible apply Keeps.drew' | with_reducible apply Keeps.drewN' | (with_reducible apply Keeps.setCell'; rotate_left; · simp)))) k6; have hx6 := (kk6.block b3 hbs (by simp)).trans HXW.out; have z7 := free_of_block hx6 7; have c7 := cell_of_block hx6 7; simp at c7; have c7a := keeps_cell0 (o := .cells #[.int .u8 3, .slice A6 1 c6] 60) c7))
    all_goals
      have hops : OpsV (w6.alloc (.cells #[.int .u8 3, .slice A6 1 c6] 60)) (some b4) b3 ([⟨2, A, 2, c⟩] ++ [⟨3, A6, 1, c6⟩]) ([(2, put16 s.smss)] ++ [(3, put8 s.sscl)]) := (OPS1.out.keep0 (kk6.trans (Keeps.alloc [] w6 _))).snoc rfl rfl ((BytesV.of_own O6.out).keep0 (Keeps.alloc [] w6 _)) (fun a ha => by
        have h3 := O6.out.lt a.block (by rw [show A6 = some a from ha]; rfl)
        have h4 := (Keeps.alloc [] w6 (.cells #[.int .u8 3, .slice A6 1 c6] 60)).size
        exact ⟨fun e => by cases e; omega, by omega, by omega⟩)
      have hops8 := hops.grown g8 at8
      have kS : Keeps [b3] w8 (w8.setCell ⟨b3, 7, none⟩ (.slice A8 ([(⟨2, A, 2, c⟩ : OC)].length + [(⟨3, A6, 1, c6⟩ : OC)].length) c8)) := Keeps.setCell w8 ⟨b3, 7, none⟩ _
      have hz8 := (kS.block w.heap.size (by have := kk8.size; have := lt_of_block HZW.out; omega) (by simp; have := B3.out; omega)).trans ((kk8.block w.heap.size (lt_of_block HZW.out) (by simp; have := B3.out; omega)).trans HZW.out)
      have HZ8 := Lib.hid hz8
      have R8 := Lib.hid (And.intro (heap_setCell_self hx8 7 (.slice A8 ([(⟨2, A, 2, c⟩ : OC)].length + [(⟨3, A6, 1, c6⟩ : OC)].length) c8)) (And.intro (EK.Own.keepb own8 kS h34) (And.intro (hops8.keepb kS (Nat.le_refl _)) ((((KW.out.trans kk6).mono (T := [b3, b4]) (by simp)).trans ((Keeps.alloc [b3, b4] w6 _).trans (Keeps.grown g8 |>.mono (by simp)))).trans (kS.mono (by simp)) |>.fresh (T := []) (by intro j hj hlt; simp at hj; have := B3.out; omega)))))
      clear hops hops8 kS own8 g8 at8 hx8 kk8 kk6 hx6 hz8
      go_wp2_with fail
      go_meet
      exact ⟨_, R8.out.1, ⟨_, R8.out.2.1, R8.out.2.2.1⟩, R8.out.2.2.2, HZ8.out⟩
  case rest =>
    obtain ⟨v8, hx8, ⟨l8, own8, ops8⟩, k8, hz8⟩ := hcut
    have HZ8 := Lib.hid hz8
    clear hz8
    obtain ⟨A8, c8, rfl⟩ := own_slice own8
    have hl8 : l8.length = 2 := ops8.1
    have hwx : Keeps [] w wc := k8
    have OWN8 := Lib.hid own8
    have OPS8 := Lib.hid ops8
    have HX8 := Lib.hid hx8
    have K8 := Lib.hid k8
    have HL8 := Lib.hid hl8
    have hbs8 := lt_of_block hx8
    have z7 := free_of_block hx8 7
    have c7 := cell_of_block hx8 7
    simp only [List.getElem?_toArray, List.getElem?_cons_succ, List.getElem?_cons_zero] at c7
    have c5 := (H.out.keep0 k8).c5
    rw [HSK.out] at c5
    have hbb8 : b4 ≤ wc.heap.size := (by
      rcases OWN8.out.2 with ⟨_, h0⟩ | ⟨g, cap, cur, _, hb, hg, _⟩
      · rw [hl8] at h0; cases h0
      · have := lt_of_block hg; omega)
    clear own8 ops8 hx8 k8 hwx hl8 c4
    go_upto_region 7 with fail
    go_cut [] from 43 to 49 (fun wx => ∃ v9, wx.heap[b3]? = some (.cells #[.int .u16 s.loc, .int .u16 s.rem, .int .u32 s.iss, .int .u32 0, .int .u8 2, .int .u16 0, .int .u16 0, v9, .slice none 0 0] 39 (0, 0)) ∧ (∃ l, optK.Own wx b4 60 v9 l ∧ OpsV wx v9.ownBlock b3 l [(2, put16 s.smss), (3, put8 s.sscl), (4, [])]) ∧ Keeps [] w wx ∧ wx.heap[w.heap.size]? = some (.cells #[.int .u16 0, .int .u16 0, .int .u32 0, .int .u32 0, .int .u8 0, .int .u16 0, .int .u16 0, .slice none 0 0, .slice none 0 0] 39 (0, 0)))
    case first =>
      go_region_law
        (first
          | (refine step_append_E optK (.tmp 44) (.tmp 46) 36 60 b4 (by rfl) Tryz.underlying36 Tryz.infoOpt (by rfl) (by decide) (.slice A8 l8.length c8) l8 (by rfl) (OWN8.out.keep0 (Keeps.trans kk6 (by (repeat (first | with_reducible assumption | with_reducible exact Keeps.refl _ _ | with_reducible apply Keeps.alloc' | with_reducible apply Keeps.drew' | with_reducible apply Keeps.drewN' | (with_reducible apply Keeps.setCell'; rotate_left; · simp)))))) (some ⟨w6.heap.size, 0, none⟩) 1 [⟨4, none, 0, 0⟩] (by rfl) (EK.at_block (MapKept.heap_alloc w6 _).1 rfl) (fun h => by cases h) (by rw [HL8.out]; simp) (by have := kk6.size; simp; omega) ?_; intro v9 w9 own9 g9 at9; obtain ⟨A9, c9, rfl⟩ := own_slice own9; have kk9 : Keeps [] wc w6 := kk6; have hx9a := (kk6.block b3 hbs8 (by simp)).trans HX8.out; have hx9b := (Keeps.alloc [] w6 (.cells #[.int .u8 4, .slice none 0 0] 60)).block b3 (lt_of_block hx9a) (by simp); have hx9 := (g9.block b3 (by have := lt_of_block hx9a; simp; omega) (fun e => by have := (OWN8.out.lt b3 e.symm).1; omega)).trans (hx9b.trans hx9a); have z7 := free_of_block hx9 7; have c7 := cell_of_block hx9 7; simp only [List.getElem?_toArray, List.getElem?_cons_succ, List.getElem?_cons_zero] at c7)
          | (go_simp; go_at_call 78; (with_reducible refine (permit_any _).mono ?_); rintro e w6 ⟨rfl, k6⟩; have kk6 : Keeps [] wc w6 := Keeps.trans (by (repeat (first | with_reducible assumption | with_reducible exact Keeps.refl _ _ | with_reducible apply Keeps.alloc' | with_reducible apply Keeps.drew' | with_reducible apply Keeps.drewN' | (with_reducible apply Keeps.setCell'; rotate_left; · simp)))) k6; have hx6 := (kk6.block b3 hbs8 (by simp)).trans HX8.out; have z7 := free_of_block hx6 7; have c7 := cell_of_block hx6 7; simp only [List.getElem?_toArray, List.getElem?_cons_succ, List.getElem?_cons_zero] at c7; have c7a := keeps_cell0 (o := .cells #[.int .u8 4, .slice none 0 0] 60) c7))
      all_goals
        have hops : OpsV (w6.alloc (.cells #[.int .u8 4, .slice none 0 0] 60)) (Value.slice A8 l8.length c8).ownBlock b3 (l8 ++ [⟨4, none, 0, 0⟩]) ([(2, put16 s.smss), (3, put8 s.sscl)] ++ [(4, [])]) := (OPS8.out.keep0 (kk9.trans (Keeps.alloc [] w6 _))).snoc rfl rfl (BytesV.nil _) (fun a ha => by cases ha)
        have hops9 := hops.grown g9 at9
        have hL : (l8 ++ [(⟨4, none, 0, 0⟩ : OC)]).length = l8.length + 1 := by simp
        rw [hL] at own9 hops9
        have kS : Keeps [b3] w9 (w9.setCell ⟨b3, 7, none⟩ (.slice A9 (l8.length + 1) c9)) := Keeps.setCell w9 ⟨b3, 7, none⟩ _
        have kg : Keeps [] w w9 := Keeps.own ((K8.out.trans kk9).alloc' _) g9 (fun j hj => by have := (OWN8.out.lt j hj).1; have := B3.out; omega)
        have hz9a := (kk9.block w.heap.size (lt_of_block HZ8.out) (by simp)).trans HZ8.out
        have hz9b := ((Keeps.alloc [] w6 (.cells #[.int .u8 4, .slice none 0 0] 60)).block w.heap.size (lt_of_block hz9a) (by simp)).trans hz9a
        have hz9 := (kS.block w.heap.size (by have := g9.size; have := lt_of_block hz9b; omega) (by simp; have := B3.out; omega)).trans ((g9.block w.heap.size (lt_of_block hz9b) (fun e => by have := (OWN8.out.lt _ e.symm).1; have := B3.out; omega)).trans hz9b)
        have HZ9 := Lib.hid hz9
        have R9 := Lib.hid (And.intro (heap_setCell_self hx9 7 (.slice A9 (l8.length + 1) c9)) (And.intro (EK.Own.keepb own9 kS h34) (And.intro (hops9.keepb kS (Nat.le_refl _)) (((kg.mono (T := [b3]) (by simp)).trans kS).fresh (T := []) (by intro j hj hlt; simp at hj; have := B3.out; omega)))))
        clear hops hops9 kS own9 g9 at9 hx9 kk9 kk6 hx6 hx9a hx9b kg hz9 hz9a hz9b hL
        go_wp2_with fail
        go_meet
        exact ⟨_, R9.out.1, ⟨_, R9.out.2.1, R9.out.2.2.1⟩, R9.out.2.2.2, HZ9.out⟩
    case rest =>
      obtain ⟨v9, hx9, ⟨l9, own9, ops9⟩, k9, hz⟩ := hcut
      obtain ⟨A9, c9, rfl⟩ := own_slice own9
      have hl9 : l9.length = 3 := ops9.1
      have OWN9 := Lib.hid own9
      have OPS9 := Lib.hid ops9
      have K9 := Lib.hid k9
      have HL9 := Lib.hid hl9
      clear own9 ops9 k9 hl9 c7 z7 c5
      have hx9c0 := cell_of_block hx9 0
      have hx9c1 := cell_of_block hx9 1
      have hx9c2 := cell_of_block hx9 2
      have hx9c3 := cell_of_block hx9 3
      have hx9c4 := cell_of_block hx9 4
      have hx9c5 := cell_of_block hx9 5
      have hx9c6 := cell_of_block hx9 6
      have hx9c7 := cell_of_block hx9 7
      have hx9c8 := cell_of_block hx9 8
      simp at hx9c0 hx9c1 hx9c2 hx9c3 hx9c4 hx9c5 hx9c6 hx9c7 hx9c8
      have hx9f0 := free_of_block hx9 0
      have hx9f1 := free_of_block hx9 1
      have hx9f2 := free_of_block hx9 2
      have hx9f3 := free_of_block hx9 3
      have hx9f4 := free_of_block hx9 4
      have hx9f5 := free_of_block hx9 5
      have hx9f6 := free_of_block hx9 6
      have hx9f7 := free_of_block hx9 7
      have hx9f8 := free_of_block hx9 8
      have hzc0 := cell_of_block hz 0
      have hzc1 := cell_of_block hz 1
      have hzc2 := cell_of_block hz 2
      have hzc3 := cell_of_block hz 3
      have hzc4 := cell_of_block hz 4
      have hzc5 := cell_of_block hz 5
      have hzc6 := cell_of_block hz 6
      have hzc7 := cell_of_block hz 7
      have hzc8 := cell_of_block hz 8
      simp at hzc0 hzc1 hzc2 hzc3 hzc4 hzc5 hzc6 hzc7 hzc8
      have hzf0 := free_of_block hz 0
      have hzf1 := free_of_block hz 1
      have hzf2 := free_of_block hz 2
      have hzf3 := free_of_block hz 3
      have hzf4 := free_of_block hz 4
      have hzf5 := free_of_block hz 5
      have hzf6 := free_of_block hz 6
      have hzf7 := free_of_block hz 7
      have hzf8 := free_of_block hz 8
      clear hx9 hz
      go_wp2_with fail
      have kF : ∀ v0 v1 v2 v3 v4 v5 v6 v7 v8, Keeps [w.heap.size] wc (((((((((wc.setCell ⟨w.heap.size, 0, none⟩ v0).setCell ⟨w.heap.size, 1, none⟩ v1).setCell ⟨w.heap.size, 2, none⟩ v2).setCell ⟨w.heap.size, 3, none⟩ v3).setCell ⟨w.heap.size, 4, none⟩ v4).setCell ⟨w.heap.size, 5, none⟩ v5).setCell ⟨w.heap.size, 6, none⟩ v6).setCell ⟨w.heap.size, 7, none⟩ v7).setCell ⟨w.heap.size, 8, none⟩ v8) := fun _ _ _ _ _ _ _ _ _ => ((((((((Keeps.setCell wc ⟨w.heap.size, 0, none⟩ _).trans (Keeps.setCell _ ⟨w.heap.size, 1, none⟩ _)).trans (Keeps.setCell _ ⟨w.heap.size, 2, none⟩ _)).trans (Keeps.setCell _ ⟨w.heap.size, 3, none⟩ _)).trans (Keeps.setCell _ ⟨w.heap.size, 4, none⟩ _)).trans (Keeps.setCell _ ⟨w.heap.size, 5, none⟩ _)).trans (Keeps.setCell _ ⟨w.heap.size, 6, none⟩ _)).trans (Keeps.setCell _ ⟨w.heap.size, 7, none⟩ _)).trans (Keeps.setCell _ ⟨w.heap.size, 8, none⟩ _)
      have ownF := EK.Own.keepb OWN9.out (kF (.int .u16 s.loc) (.int .u16 s.rem) (.int .u32 s.iss) (.int .u32 0) (.int .u8 2) (.int .u16 0) (.int .u16 0) (.slice A9 l9.length c9) (.slice none 0 0)) (by have := B3.out; omega)
      have opsF := OPS9.out.keepb (kF (.int .u16 s.loc) (.int .u16 s.rem) (.int .u32 s.iss) (.int .u32 0) (.int .u8 2) (.int .u16 0) (.int .u16 0) (.slice A9 l9.length c9) (.slice none 0 0)) (by have := B3.out; omega)
      obtain ⟨A', c', e', hoF⟩ := opsF.opts ownF
      injection e' with e1 e2 e3
      subst e1 e3
      refine bodyPost_ret (v := segV s.synS (.slice A9 3 c9) (.slice none 0 0)) (by simp [results, Tryz.results44, go_sem, segV, F.out, HL9.out, hzc0, hzc1, hzc2, hzc3, hzc4, hzc5, hzc6, hzc7, hzc8]) rfl ⟨A9, c9, rfl, ?_, ?_⟩
      · rw [F.out]; exact hoF
      · exact ((K9.out.mono (T := [w.heap.size]) (by simp)).trans (kF _ _ _ _ _ _ _ _ _)).fresh (T := []) (by intro j hj hlt; simp at hj; omega)
end Go.Proofs.YtakgohocimlagaaGreat
