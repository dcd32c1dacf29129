/-
  EndpSends (8): the peer's turn, walked. Condition: numbers are in the ranges of their kinds.
-/
import Derived.Test.YtakgohocimlagaaGreatEtQ
namespace Go.Proofs.YtakgohocimlagaaGreat
open Go.RowKit Go.Lib
set_option linter.unusedVariables false
set_option linter.unusedSimpArgs false

theorem OptsV.one {w : World} {g : Nat} {t : TypeId} {k : UInt8} {A : Option Addr} {c : Nat} {l : List UInt8} {z : Nat × Nat} (h : w.heap[g]? = some (.cells #[.int .u8 k.toNat, .slice A l.length c] t z)) (hb : BytesV w (.slice A l.length c) l) : OptsV w (.slice (some ⟨g, 0, none⟩) 1 1) [(k, l)] := by
  refine ⟨_, 1, rfl, Nat.le_refl _, by simp [maxLen], fun _ => ⟨g, 0, rfl, fun i x hx => ?_⟩⟩
  match i, hx with
  | 0, hx =>
    cases hx
    exact ⟨A, c, by simp [World.cell?, h, u8V], by simp [World.cell?, h], hb⟩
/-- a SYN comes first -/
theorem syn_first {its : List It} {j : Nat} (h : ∀ it ∈ its.tail, it ≠ .syn) (hj : its[j]? = some .syn) : j = 0 := by
  match j with
  | 0 => rfl
  | j + 1 => exact absurd rfl (h .syn (List.mem_of_getElem? (i := j) (by rw [List.getElem?_tail]; exact hj)))
set_option maxRecDepth 100000 in
set_option maxHeartbeats 8000000 in
theorem peer_walk {W : World} {iss irs : Int} {D1 D2 : List UInt8} {M win : Nat} {mss : Int} {sb bm bl : Nat} {L : Option Addr} {ls : List Bool} {lc lo hi x r : Nat} {e : ET} {sz : Nat} {A15 : Option Addr} {c15 : Nat} {l : List GS} {its : List It} {op0 : Bool} {G0 m0 g0 : Nat} {w1 : World} {A0 : Option Addr} {T c0 : Nat} {v24 : Value}
    (u0 : U32 iss) (u1 : U32 irs) (q0 : 0 ≤ mss) (q1 : mss ≤ 65535) (hw5 : 1 ≤ win ∧ win ≤ 500) (hbs : BytesV W (.slice A0 T c0) (D1 ++ D2)) (hT : (D1 ++ D2).length = T) (hT4 : T ≤ 400) (hbl : BoolsV W L ls) (hl60 : ls.length ≤ 60) (hil : its.length ≤ 801) (hm0 : m0 ≤ 100000000) (hsz : sz = w1.heap.size) (hhi : hi ≤ sz) (h240 : its = [.syn] → v24 = .slice none 0 0)
    (hA : AllM W iss irs D1 D2 M win mss sb bm bl L ls.length lc lo hi x w1 m0 g0 r e v24 G0 0 (.slice none 0 0) [] [] [] 0 (.slice A15 l.length c15) l l its)
    (hok : (∀ it ∈ its, okI (D1 ++ D2).length win G0 it) ∧ (∀ it ∈ its.tail, it ≠ .syn) ∧ ((∃ s, e = .on s) → ∀ it ∈ its, it ≠ .syn) ∧ ((∃ s, e = .on s) → op0 = true) ∧ ((∃ s, e = .on s) ∨ its = [.syn]))
    (v18 v19 v23 v26 v27 v34 : Value) (u : Nat → Value) (J K : Act → World → Prop) (Q : Exit → Act → World → Prop)
    (hJ : ∀ v24 v25 v28 v29 u' w', PeerE W iss irs D1 D2 M win mss sb bm bl L ls lc lo hi x r e sz (.slice A15 l.length c15) l its op0 G0 m0 g0 v24 v25 v28 w' → J (actP (.slice A0 T c0) (.int .u32 iss) (.int .u32 irs) (.int .u16 mss) (.pointer (some ⟨sb, 0, none⟩)) (.pointer (some ⟨x, 0, none⟩)) (.slice A15 l.length c15) (.int .u16 win) v18 v19 (.func (Fn.func 21) #[] #[.pointer (some ⟨bm, 0, none⟩), .pointer (some ⟨bl, 0, none⟩), .pointer (some ⟨bm + 1, 0, none⟩)]) v23 v24 v25 v26 v27 v28 v29 v34 u') w')
    (hK : ∀ a' w', Met J a' w' → K a' w') :
    (blkS 2).wp Tryz.prog (Exit.then K Q) (actP (.slice A0 T c0) (.int .u32 iss) (.int .u32 irs) (.int .u16 mss) (.pointer (some ⟨sb, 0, none⟩)) (.pointer (some ⟨x, 0, none⟩)) (.slice A15 l.length c15) (.int .u16 win) v18 v19 (.func (Fn.func 21) #[] #[.pointer (some ⟨bm, 0, none⟩), .pointer (some ⟨bl, 0, none⟩), .pointer (some ⟨bm + 1, 0, none⟩)]) v23 v24 (.bool op0) v26 v27 (.slice none 0 0) (.int .i64 0) v34 u) w1 := by
  have HA1 := Lib.hid hA
  have HOK := Lib.hid hok
  have H240 := Lib.hid h240
  have HJ := Lib.hid hJ
  have HN := Lib.hid (And.intro hT (And.intro hT4 (And.intro hil (And.intro hm0 (And.intro hsz hhi)))))
  have HBS := Lib.hid hbs
  have HBL := Lib.hid hbl
  have HLL := Lib.hid (show l.length = its.length from hA.orr.1)
  have hiw : IntKind.u16.wrap (win : Int) = win := by rw [IntKind.wrap_u16]; omega
  have hiv : IntKind.i64.wrap (win : Int) = win := by rw [IntKind.wrap_i64]; omega
  have hlm : l.length ≤ 801 := by rw [HLL.out]; exact hil
  clear hA hok hJ hT hil hm0 hsz hhi hbs hbl h240
  unfold blkS actP
  simp only [Tryz.f5, findB, Option.getD_some, Option.getD_none, Option.or_some, Option.none_or, Option.or_none, if_true, if_false, reduceIte, Nat.reduceEqDiff]
  go_wp2_with fail
  refine wp_loop_ghost_k (fun n a w' => ∃ v24 v25 v28 v29 u', PeerR W iss irs D1 D2 M win mss sb bm bl L ls lc lo hi x r e sz (.slice A15 l.length c15) l its op0 G0 m0 g0 n v24 v25 v28 v29 w' ∧ a = actP (.slice A0 T c0) (.int .u32 iss) (.int .u32 irs) (.int .u16 mss) (.pointer (some ⟨sb, 0, none⟩)) (.pointer (some ⟨x, 0, none⟩)) (.slice A15 l.length c15) (.int .u16 win) v18 v19 (.func (Fn.func 21) #[] #[.pointer (some ⟨bm, 0, none⟩), .pointer (some ⟨bl, 0, none⟩), .pointer (some ⟨bm + 1, 0, none⟩)]) v23 v24 v25 v26 v27 v28 v29 v34 u') its.length ?_ ?_
  · have hA := HA1.out
    refine ⟨_, _, _, _, _, ⟨0, op0, G0, m0, g0, [], [], rfl, Nat.zero_le _, rfl, by simp, rfl, hA.rows (EK.Own.nil _ _ _ _) (RowV.nil _) hA.oo (by simpa using hA.orr) hA.ne, Nat.le_refl _, rfl, fun _ => rfl, (fun _ b hb => by cases hb), HOK.out.1, (fun h => h), (by rw [HN.out.2.2.2.2.1]; exact Nat.le_refl _), H240.out⟩, actP_of _ rfl⟩
  · rintro n a wr ⟨v24, v25, v28, v29, u, hrel, rfl⟩ J2 K2 hJ2 hK2
    obtain ⟨j, op, G', m', g', bk, lb, rfl, hj, rfl, hphi, rfl, hA, hbl', hm', hnil, hpb, hokj, hop, hszr, hv24⟩ := hrel
    have HV24 := Lib.hid hv24
    clear hv24
    obtain ⟨A24, c24, h24⟩ := own_slice hA.got.2
    subst h24
    have hG4 : G' ≤ 400 := by have := hA.got.1; have := HN.out; omega
    have HJ2 := Lib.hid hJ2
    clear hJ2
    unfold actP
    by_cases hjl : j < its.length
    · obtain ⟨it, hit⟩ : ∃ it, its[j]? = some it := ⟨_, List.getElem?_eq_getElem hjl⟩
      obtain ⟨gs, hgs⟩ : ∃ gs, l[j]? = some gs := ⟨_, List.getElem?_eq_getElem (by have := HLL.out; omega)⟩
      have hdi := drop_cons hit
      have hI := hA.orr.head hgs hit
      obtain ⟨A', c', he, hat, _⟩ := EK.Own.at_ hA.oo
      injection he with he1 he2 he3
      subst he1 he3
      obtain ⟨gb, o, rfl, hcells⟩ : ∃ gb o, A15 = some ⟨gb, o, none⟩ ∧ ∀ q u, (gsC gs)[q]? = some u → wr.cell? ⟨gb, o + j * 9 + q, none⟩ = some u := by
        rcases hat with h0 | ⟨gb, o, h1, h2⟩
        · rw [h0] at hgs; simp at hgs
        · exact ⟨gb, o, h1, fun q u hu => h2 j gs hgs q u hu⟩
      obtain ⟨sp, dp, sq, ak, fl, wn, ug, oA, oN, oC, dA, dN, dC⟩ := gs
      have f0 := hcells 0 _ rfl
      have f1 := hcells 1 _ rfl
      have f2 := hcells 2 _ rfl
      have f3 := hcells 3 _ rfl
      have f4 := hcells 4 _ rfl
      have f5 := hcells 5 _ rfl
      have f6 := hcells 6 _ rfl
      have f7 := hcells 7 _ rfl
      have f8 := hcells 8 _ rfl
      simp only [Nat.add_zero] at f0
      have hjI : (j : Int) < (l.length : Int) := by have := HLL.out; omega
      have hj1 : IntKind.i64.wrap ((j : Int) + 1) = (j : Int) + 1 := by rw [IntKind.wrap_i64]; omega
      have hmb : m' + 2 ≤ 1000000000000 := by have := HN.out; omega
      have HA := Lib.hid hA
      have HPH := Lib.hid (And.intro hphi (And.intro hbl' (And.intro hm' (And.intro hnil (And.intro hpb (And.intro hokj hop))))))
      have HSZ := Lib.hid hszr
      have HIT := Lib.hid (And.intro hit (And.intro hgs (And.intro hdi hjl)))
      have HI := Lib.hid hI
      clear hA hphi hbl' hm' hnil hpb hokj hop hit hgs hdi hI hat hcells he2
      go_upto_region 24 with fail
      refine wp_gn (fun W3 hW3 => ?_)
      have k3 : Keeps [] wr W3 := by rw [hW3]; exact Keeps.alloc _ _ _
      have ho3 : W3.heap[wr.heap.size]? = some (.cells #[.int .u16 sp, .int .u16 dp, .int .u32 sq, .int .u32 ak, .int .u8 fl, .int .u16 wn, .int .u16 ug, .slice oA oN oC, .slice dA dN dC] 39 (0, 0)) := by rw [hW3]; exact (MapKept.heap_alloc wr _).1
      have HA3 := Lib.hid (HA.out.keep0 k3)
      have HI3 := Lib.hid (HI.out.keepN k3 (fun b hb => by cases hb))
      have HO3 := Lib.hid ho3
      have hob : bm + 1 < wr.heap.size := lt_of_block HA.out.mm.hbg
      obtain ⟨ob, hobn⟩ : ∃ ob, wr.heap.size = ob := ⟨_, rfl⟩
      rw [hobn] at ho3 HO3 hob
      simp only [hobn]
      have HOB := Lib.hid hobn
      have ho3c0 := cell_of_block ho3 0
      have ho3c1 := cell_of_block ho3 1
      have ho3c2 := cell_of_block ho3 2
      have ho3c3 := cell_of_block ho3 3
      have ho3c4 := cell_of_block ho3 4
      have ho3c5 := cell_of_block ho3 5
      have ho3c6 := cell_of_block ho3 6
      have ho3c7 := cell_of_block ho3 7
      have ho3c8 := cell_of_block ho3 8
      simp at ho3c0 ho3c1 ho3c2 ho3c3 ho3c4 ho3c5 ho3c6 ho3c7 ho3c8
      clear hW3 k3 ho3 f0 f1 f2 f3 f4 f5 f6 f7 f8 hobn HA HI
      go_wp2_with fail
      refine (may_it (w := W3) HI3.out (by have := HN.out; omega)).mono ?_
      rintro e4 w4 ⟨rfl, k4⟩
      have HA4 := Lib.hid (HA3.out.keep0 k4)
      have HI4 := Lib.hid (HI3.out.keepN k4 (fun b hb => by cases hb))
      have ho4 := (k4.block _ (lt_of_block HO3.out) (by simp)).trans HO3.out
      have HO4 := Lib.hid ho4
      have hs4 := HA4.out.mm.hsb
      have s0 := cell_of_block hs4 0
      have s1 := cell_of_block hs4 1
      simp at s0 s1
      clear k4 HA3 HI3 HO3 ho3c0 ho3c1 ho3c2 ho3c3 ho3c4 ho3c5 ho3c6 ho3c7 ho3c8 hs4
      cases it with
      | syn =>
        obtain ⟨h1, h2, h3, h4, h5, h6, h7, h8, h9, h10, h11⟩ := HI4.out
        have h1 : sp = 1 := h1
        have h2 : dp = 2 := h2
        have h3 : sq = iss := h3
        have h4 : ak = 0 := h4
        have h5 : fl = 2 := h5
        have h6 : wn = 0 := h6
        have h7 : ug = 0 := h7
        have h9 : dA = none := h9
        have h10 : dN = 0 := h10
        have h11 : dC = 0 := h11
        have ho5 := HO4.out
        rw [h1, h2, h3, h4, h5, h6, h7, h9, h10, h11] at ho5
        have HO5 := Lib.hid ho5
        have hj0 := syn_first HOK.out.2.1 HIT.out.1
        have hG0 : G' = 0 := HPH.out.2.2.2.2.2.1 .syn (by rw [HIT.out.2.2.1]; exact List.mem_cons_self ..)
        have hbk : bk = [] := List.eq_nil_of_length_eq_zero (by have := HPH.out.2.1; omega)
        have h28 := HPH.out.2.2.2.1 hbk
        have hlb : lb = [] := List.eq_nil_of_length_eq_zero (by have h := HA4.out.br.1; rw [hbk] at h; simpa using h)
        subst hG0 h28
        have HB := Lib.hid (And.intro hj0 (And.intro hbk hlb))
        have f22 : bits .and .u8 2 2 = 2 := by decide
        obtain ⟨ir1, hir1⟩ : ∃ v, addI irs 1 = v := ⟨_, rfl⟩
        obtain ⟨is1, his1⟩ : ∃ v, addI iss 1 = v := ⟨_, rfl⟩
        have hwi : IntKind.u32.wrap (irs + 1) = ir1 := by rw [← hir1]; exact IntKind.wrap_u32 _
        have hws : IntKind.u32.wrap (iss + 1) = is1 := by rw [← his1]; exact IntKind.wrap_u32 _
        have hwa : IntKind.u32.wrap is1 = is1 := by rw [← his1, IntKind.wrap_u32]; unfold addI; omega
        have HIS := Lib.hid (And.intro hir1 his1)
        have ho5c0 := cell_of_block ho5 0
        have ho5c1 := cell_of_block ho5 1
        have ho5c2 := cell_of_block ho5 2
        have ho5c3 := cell_of_block ho5 3
        have ho5c4 := cell_of_block ho5 4
        have ho5c5 := cell_of_block ho5 5
        have ho5c6 := cell_of_block ho5 6
        have ho5c7 := cell_of_block ho5 7
        have ho5c8 := cell_of_block ho5 8
        simp at ho5c0 ho5c1 ho5c2 ho5c3 ho5c4 ho5c5 ho5c6 ho5c7 ho5c8
        clear h1 h2 h3 h4 h5 h6 h7 h8 h9 h10 h11 ho5 ho4 hj0 hbk hlb hir1 his1
        go_wp2_with fail
        refine (drop_any HA4.out.mm HBL.out hl60 (by omega)).mono ?_
        rintro e5 w5 ⟨rfl, hM5, k5⟩
        obtain ⟨lo', hlo⟩ : ∃ b, lostB ls m' = b := ⟨_, rfl⟩
        rw [hlo] at hM5 ⊢
        have HA5 := Lib.hid (HA4.out.drop hM5 k5)
        have HZ5 := Lib.hid (show ob < w5.heap.size from by have := lt_of_block HO5.out; have := k5.size; omega)
        have ho5 := (k5.block ob (lt_of_block HO5.out) (by simp; omega)).trans HO5.out
        have HO6 := Lib.hid ho5
        have HLO := Lib.hid hlo
        clear hM5 k5 hlo ho5c0 ho5c1 ho5c2 ho5c3 ho5c4 ho5c5 ho5c6 ho5c7 ho5c8 ho5 HO5 s0 s1
        cases lo'
        · have hs5 := HA5.out.mm.hsb
          have s0 := cell_of_block hs5 0
          have s1 := cell_of_block hs5 1
          simp at s0 s1
          clear hs5
          go_upto_region 36 with fail
          refine wp_gn (fun W6 hW6 => ?_)
          have k6 : Keeps [] w5 W6 := by rw [hW6]; exact Keeps.alloc _ _ _
          have ha6 : W6.heap[w5.heap.size]? = some (.cells #[.int .u16 2, .int .u16 1, .int .u32 ir1, .int .u32 is1, .int .u8 16, .int .u16 win, .int .u16 0, .slice none 0 0, .slice none 0 0] 39 (0, 0)) := by rw [hW6]; exact (MapKept.heap_alloc w5 _).1
          obtain ⟨ab, habn⟩ : ∃ ab, w5.heap.size = ab := ⟨_, rfl⟩
          rw [habn] at ha6
          simp only [habn]
          have HAB := Lib.hid habn
          have hoa : ob < ab := by rw [← habn]; exact lt_of_block HO6.out
          have ho6 := (k6.block ob (lt_of_block HO6.out) (by simp)).trans HO6.out
          have HO7 := Lib.hid ho6
          have HA6 := Lib.hid ha6
          have K6 := Lib.hid k6
          have ho6c0 := cell_of_block ho6 0
          have ho6c1 := cell_of_block ho6 1
          have ho6c2 := cell_of_block ho6 2
          have ho6c3 := cell_of_block ho6 3
          have ho6c4 := cell_of_block ho6 4
          have ho6c5 := cell_of_block ho6 5
          have ho6c6 := cell_of_block ho6 6
          have ho6c7 := cell_of_block ho6 7
          have ho6c8 := cell_of_block ho6 8
          simp at ho6c0 ho6c1 ho6c2 ho6c3 ho6c4 ho6c5 ho6c6 ho6c7 ho6c8
          have ha6c0 := cell_of_block ha6 0
          have ha6c1 := cell_of_block ha6 1
          have ha6c2 := cell_of_block ha6 2
          have ha6c3 := cell_of_block ha6 3
          have ha6c4 := cell_of_block ha6 4
          have ha6c5 := cell_of_block ha6 5
          have ha6c6 := cell_of_block ha6 6
          have ha6c7 := cell_of_block ha6 7
          have ha6c8 := cell_of_block ha6 8
          simp at ha6c0 ha6c1 ha6c2 ha6c3 ha6c4 ha6c5 ha6c6 ha6c7 ha6c8
          have ha6f0 := free_of_block ha6 0
          have ha6f1 := free_of_block ha6 1
          have ha6f2 := free_of_block ha6 2
          have ha6f3 := free_of_block ha6 3
          have ha6f4 := free_of_block ha6 4
          have ha6f5 := free_of_block ha6 5
          have ha6f6 := free_of_block ha6 6
          have ha6f7 := free_of_block ha6 7
          have ha6f8 := free_of_block ha6 8
          clear hW6 k6 ha6 ho6 s0 s1 habn HO6
          go_wp2_with fail
          refine (withMss_own _ mss q0 q1).mono ?_
          rintro e7 w7 ⟨A7, c7, rfl, o7, k7⟩
          have ha7 := (k7.block ab (lt_of_block HA6.out) (by simp)).trans HA6.out
          have ho7 := (k7.block ob (lt_of_block HO7.out) (by simp)).trans HO7.out
          have HA7 := Lib.hid ha7
          have HO8 := Lib.hid ho7
          have K7 := Lib.hid (K6.out.trans k7)
          have O7 := Lib.hid (own_lower' (B' := ab + 1) o7 (by have := lt_of_block HA6.out; omega))
          have hlt7 := lt_of_block ha7
          have ha7c0 := cell_of_block ha7 0
          have ha7c1 := cell_of_block ha7 1
          have ha7c2 := cell_of_block ha7 2
          have ha7c3 := cell_of_block ha7 3
          have ha7c4 := cell_of_block ha7 4
          have ha7c5 := cell_of_block ha7 5
          have ha7c6 := cell_of_block ha7 6
          have ha7c7 := cell_of_block ha7 7
          have ha7c8 := cell_of_block ha7 8
          simp at ha7c0 ha7c1 ha7c2 ha7c3 ha7c4 ha7c5 ha7c6 ha7c7 ha7c8
          have ha7f0 := free_of_block ha7 0
          have ha7f1 := free_of_block ha7 1
          have ha7f2 := free_of_block ha7 2
          have ha7f3 := free_of_block ha7 3
          have ha7f4 := free_of_block ha7 4
          have ha7f5 := free_of_block ha7 5
          have ha7f6 := free_of_block ha7 6
          have ha7f7 := free_of_block ha7 7
          have ha7f8 := free_of_block ha7 8
          clear k7 o7 ha7 ho7 ha6c0 ha6c1 ha6c2 ha6c3 ha6c4 ha6c5 ha6c6 ha6c7 ha6c8 ha6f0 ha6f1 ha6f2 ha6f3 ha6f4 ha6f5 ha6f6 ha6f7 ha6f8 ho6c0 ho6c1 ho6c2 ho6c3 ho6c4 ho6c5 ho6c6 ho6c7 ho6c8
          go_upto_region 42 with fail
          refine wp_gn (fun W8 hW8 => ?_)
          have ha8 : W8.heap[ab]? = some (.cells #[.int .u16 2, .int .u16 1, .int .u32 irs, .int .u32 is1, .int .u8 18, .int .u16 win, .int .u16 0, .slice (some ⟨w7.heap.size, 0, none⟩) 1 1, .slice none 0 0] 39 (0, 0)) := by
            rw [hW8, Below.heap_alloc _ _ _ (by simpa using hlt7)]; exact heap_setCell_self (heap_setCell_self (heap_setCell_self HA7.out 2 _) 4 _) 7 _
          have hp8 : W8.heap[w7.heap.size]? = some (.cells #[.int .u8 2, .slice A7 2 c7] 60 (0, 0)) := by
            rw [hW8]; exact heap_alloc_at _ (by simp [World.setCell])
          have k8 : Keeps [ab] w7 W8 := by rw [hW8]; exact (((Keeps.setCell w7 ⟨ab, 2, none⟩ _).trans (Keeps.setCell _ ⟨ab, 4, none⟩ _)).trans (Keeps.setCell _ ⟨ab, 7, none⟩ _)).alloc' _
          have ho8 := (k8.block ob (lt_of_block HO8.out) (by simp; omega)).trans HO8.out
          have HA8 := Lib.hid ha8
          have HP8 := Lib.hid hp8
          have K8 := Lib.hid k8
          have HO9 := Lib.hid ho8
          have ha8c0 := cell_of_block ha8 0
          have ha8c1 := cell_of_block ha8 1
          have ha8c2 := cell_of_block ha8 2
          have ha8c3 := cell_of_block ha8 3
          have ha8c4 := cell_of_block ha8 4
          have ha8c5 := cell_of_block ha8 5
          have ha8c6 := cell_of_block ha8 6
          have ha8c7 := cell_of_block ha8 7
          have ha8c8 := cell_of_block ha8 8
          simp at ha8c0 ha8c1 ha8c2 ha8c3 ha8c4 ha8c5 ha8c6 ha8c7 ha8c8
          have ha8f0 := free_of_block ha8 0
          have ha8f1 := free_of_block ha8 1
          have ha8f2 := free_of_block ha8 2
          have ha8f3 := free_of_block ha8 3
          have ha8f4 := free_of_block ha8 4
          have ha8f5 := free_of_block ha8 5
          have ha8f6 := free_of_block ha8 6
          have ha8f7 := free_of_block ha8 7
          have ha8f8 := free_of_block ha8 8
          have ho8c0 := cell_of_block ho8 0
          have ho8c1 := cell_of_block ho8 1
          have ho8c2 := cell_of_block ho8 2
          have ho8c3 := cell_of_block ho8 3
          have ho8c4 := cell_of_block ho8 4
          have ho8c5 := cell_of_block ho8 5
          have ho8c6 := cell_of_block ho8 6
          have ho8c7 := cell_of_block ho8 7
          have ho8c8 := cell_of_block ho8 8
          simp at ho8c0 ho8c1 ho8c2 ho8c3 ho8c4 ho8c5 ho8c6 ho8c7 ho8c8
          clear hW8 k8 ha8 hp8 ho8 ha7c0 ha7c1 ha7c2 ha7c3 ha7c4 ha7c5 ha7c6 ha7c7 ha7c8 ha7f0 ha7f1 ha7f2 ha7f3 ha7f4 ha7f5 ha7f6 ha7f7 ha7f8 HA7
          go_upto_region 44 with fail
          refine wp_gn (fun W9 hW9 => ?_)
          have k9 : Keeps [ab] W8 W9 := by rw [hW9]; exact Keeps.setCell W8 ⟨ab, 3, none⟩ _
          have ha9 : W9.heap[ab]? = some (.cells #[.int .u16 2, .int .u16 1, .int .u32 irs, .int .u32 is1, .int .u8 18, .int .u16 win, .int .u16 0, .slice (some ⟨w7.heap.size, 0, none⟩) 1 1, .slice none 0 0] 39 (0, 0)) := by rw [hW9]; exact heap_setCell_self HA8.out 3 _
          have hp9 := (k9.block _ (lt_of_block HP8.out) (by simp; omega)).trans HP8.out
          have b9 : BytesV W9 (.slice A7 2 c7) (put16 mss) := (BytesV.of_own O7.out).keepF (K8.out.trans k9) (fun a ha hm => by
            have := (O7.out.lt a.block (by rw [ha]; rfl)).1
            simp at hm
            omega)
          have K9 := Lib.hid (show Keeps [] w5 W9 from (((K7.out.mono (T := [ab]) (by simp)).trans K8.out).trans k9).fresh (by intro z hz hlt; simp at hz; have := HAB.out; omega))
          have HP9 := Lib.hid (show OptsV W9 (.slice (some ⟨w7.heap.size, 0, none⟩) 1 1) [(2, put16 mss)] from OptsV.one hp9 b9)
          have HA9 := Lib.hid (HA5.out.keep0 K9.out)
          have hszW : sz ≤ W9.heap.size := by have := HSZ.out; have := HZ5.out; have := HOB.out; have := K9.out.size; omega
          have ha9c0 := cell_of_block ha9 0
          have ha9c1 := cell_of_block ha9 1
          have ha9c2 := cell_of_block ha9 2
          have ha9c3 := cell_of_block ha9 3
          have ha9c4 := cell_of_block ha9 4
          have ha9c5 := cell_of_block ha9 5
          have ha9c6 := cell_of_block ha9 6
          have ha9c7 := cell_of_block ha9 7
          have ha9c8 := cell_of_block ha9 8
          simp at ha9c0 ha9c1 ha9c2 ha9c3 ha9c4 ha9c5 ha9c6 ha9c7 ha9c8
          clear hW9 k9 ha9 hp9 b9 ha8c0 ha8c1 ha8c2 ha8c3 ha8c4 ha8c5 ha8c6 ha8c7 ha8c8 ha8f0 ha8f1 ha8f2 ha8f3 ha8f4 ha8f5 ha8f6 ha8f7 ha8f8 ho8c0 ho8c1 ho8c2 ho8c3 ho8c4 ho8c5 ho8c6 ho8c7 ho8c8 HA8 HP8 HO9
          go_wp2_with (at_builtin; refine wpList_append_E gsK rfl (.tmp 275) (.tmp 277) 23 39 sz rfl Tryz.underlying23 Tryz.infoSeg (by rfl) (by decide) (.slice none 0 0) [] rfl (EK.Own.nil _ _ _ _) (some ⟨W9.heap.size, 0, none⟩) 1 [⟨2, 1, irs, is1, 18, win, 0, some ⟨w7.heap.size, 0, none⟩, 1, 1, none, 0, 0⟩] rfl (gs_one (MapKept.heap_alloc W9 _).1) (fun h => by cases h) (by simp) (by simp; omega) ?_; intro v10 w10 o10 g10 a10)
          have hAl := HA9.out.keep0 (Keeps.alloc [] W9 (.cells (gsC ⟨2, 1, irs, is1, 18, win, 0, some ⟨w7.heap.size, 0, none⟩, 1, 1, none, 0, 0⟩).toArray 39))
          have hbk := HB.out.2.1
          have hlb := HB.out.2.2
          subst hbk hlb
          have hAn : AnV iss irs win mss (W9.alloc (.cells (gsC ⟨2, 1, irs, is1, 18, win, 0, some ⟨w7.heap.size, 0, none⟩, 1, 1, none, 0, 0⟩).toArray 39)) ⟨2, 1, irs, is1, 18, win, 0, some ⟨w7.heap.size, 0, none⟩, 1, 1, none, 0, 0⟩ .syn := ⟨rfl, rfl, rfl, HIS.out.2.symm, rfl, rfl, rfl, HP9.out.keep0 (Keeps.alloc [] W9 _), rfl, rfl, rfl⟩
          have hF := hAl.back (a := ⟨2, 1, irs, is1, 18, win, 0, some ⟨w7.heap.size, 0, none⟩, 1, 1, none, 0, 0⟩) HN.out.2.2.2.2.2 (.inl rfl) o10 g10 a10 hAn
          have HF := Lib.hid (hF.re hF.br hF.orr.drop1)
          have HZF := Lib.hid (show sz ≤ w10.heap.size from Nat.le_trans hszW (Nat.le_trans (Keeps.alloc [] W9 _).size g10.size))
          clear hAl hAn hF o10 g10 a10
          go_wp2_with fail
          refine Handed.intro (its.length - (j + 1)) (by omega) (HJ2.out _ _ _ ?_)
          have hph := HPH.out
          have h1 := hph.1
          rw [HIT.out.2.2.1, phI_syn1 HLO.out, List.nil_append] at h1
          refine ⟨_, _, _, _, _, ⟨j + 1, true, 0, m' + 1, g', [.syn], _, rfl, by omega, rfl, h1, rfl, HF.out, by simp, by have := hph.2.2.1; omega, (fun h => by cases h), (fun hs => absurd rfl (HOK.out.2.2.1 hs .syn (List.mem_of_getElem? (i := j) HIT.out.1))), (fun it hm => hph.2.2.2.2.2.1 it (by rw [HIT.out.2.2.1]; exact List.mem_cons_of_mem _ hm)), (fun _ => rfl), (by have := HZF.out; omega), HV24.out⟩, actP_of _ rfl⟩
        · go_wp2_with fail
          refine Handed.intro (its.length - (j + 1)) (by omega) (HJ2.out _ _ _ ?_)
          have hph := HPH.out
          have hA := HA5.out
          refine ⟨_, _, _, _, _, ⟨j + 1, op, 0, m' + 1, g' + 1, bk, lb, rfl, by omega, rfl, ?_, rfl, hA.re hA.br hA.orr.drop1, by have := hph.2.1; omega, by have := hph.2.2.1; omega, fun _ => rfl, hph.2.2.2.2.1, (fun it hm => hph.2.2.2.2.2.1 it (by rw [HIT.out.2.2.1]; exact List.mem_cons_of_mem _ hm)), hph.2.2.2.2.2.2, (by have := HSZ.out; have := HZ5.out; have := HOB.out; omega), HV24.out⟩, actP_of _ rfl⟩
          have h1 := hph.1
          rw [HIT.out.2.2.1, phI_lost HLO.out] at h1
          exact h1
      | sk kk =>
        have hph := HPH.out
        have hoki : okI (D1 ++ D2).length win G' (.sk kk) := hph.2.2.2.2.2.1 _ (by rw [HIT.out.2.2.1]; exact List.mem_cons_self ..)
        obtain ⟨a, n, h1, h2, h3, h4, h5, h6, h7, h8, h9, h10, h11, h12, hT1, hW1, hk⟩ := sk_facts HI4.out hoki
        replace h1 : sp = 1 := h1
        replace h2 : dp = 2 := h2
        replace h3 : sq = (iss + 1 + (a : Nat)) % 4294967296 := h3
        replace h4 : ak = addI irs 1 := h4
        replace h5 : bits .and .u8 fl 2 = 0 := h5
        replace h6 : wn = 0 := h6
        replace h7 : ug = 0 := h7
        replace h8 : oA = none := h8
        replace h9 : oN = 0 := h9
        replace h10 : oC = 0 := h10
        replace h11 : dN = n := h11
        obtain ⟨ir1, hir1⟩ : ∃ v, addI irs 1 = v := ⟨_, rfl⟩
        obtain ⟨is1, his1⟩ : ∃ v, addI iss 1 = v := ⟨_, rfl⟩
        have ho5 := HO4.out
        rw [h1, h2, h4, h6, h7, h8, h9, h10, h11, hir1] at ho5
        have HO5 := Lib.hid ho5
        have hns : its ≠ [.syn] := fun h0 => by
          have h00 := HIT.out.1
          rw [h0] at h00
          match j, h00 with
          | 0, h00 => cases h00
          | j + 1, h00 => simp at h00
        have hon : ∃ s, e = .on s := HOK.out.2.2.2.2.elim id (fun h => absurd h hns)
        have hop1 : op = true := hph.2.2.2.2.2.2 (HOK.out.2.2.2.1 hon)
        have HNS := Lib.hid hns
        clear hns
        subst hop1
        obtain ⟨tt, htt⟩ : ∃ tt, a + n = tt := ⟨_, rfl⟩
        obtain ⟨gw, hgw⟩ : ∃ gw, G' + win = gw := ⟨_, rfl⟩
        have hTt : tt ≤ T := by have := HN.out.1; omega
        obtain ⟨X, hX⟩ : ∃ X, (if c0 = a then A0 else Option.map (fun x : Addr => x.add a) A0) = X := ⟨_, rfl⟩
        have hTc : T ≤ c0 := HBS.out.form.2.1
        have HDD := Lib.hid (And.intro h12 (And.intro hk (And.intro hW1 (And.intro htt (And.intro hgw (And.intro hTt (And.intro hX (And.intro hon (And.intro h3 (And.intro hir1 his1))))))))))
        have hwi : IntKind.u32.wrap (irs + 1) = ir1 := by rw [← hir1]; exact IntKind.wrap_u32 _
        have hws : IntKind.u32.wrap (iss + 1) = is1 := by rw [← his1]; exact IntKind.wrap_u32 _
        have hq1 : IntKind.u32.wrap (sq - iss) = (a : Int) + 1 := by rw [h3, IntKind.wrap_u32]; omega
        have hq2 : IntKind.u32.wrap (a : Int) = a := by rw [IntKind.wrap_u32]; omega
        have hq3 : IntKind.i32.wrap (a : Int) = a := by rw [IntKind.wrap_i32]; omega
        have hq4 : IntKind.i64.wrap (a : Int) = a := by rw [IntKind.wrap_i64]; omega
        have hq5 : (a : Int) + n = tt := by omega
        have hq6 : IntKind.i64.wrap (tt : Int) = tt := by rw [IntKind.wrap_i64]; omega
        have d1 : decide ((a : Int) < 0) = false := decide_eq_false (by omega)
        have d2 : decide ((T : Int) < tt) = false := decide_eq_false (by omega)
        have d2' : decide (T < tt) = false := decide_eq_false (by omega)
        have ho5c0 := cell_of_block ho5 0
        have ho5c1 := cell_of_block ho5 1
        have ho5c2 := cell_of_block ho5 2
        have ho5c3 := cell_of_block ho5 3
        have ho5c4 := cell_of_block ho5 4
        have ho5c5 := cell_of_block ho5 5
        have ho5c6 := cell_of_block ho5 6
        have ho5c7 := cell_of_block ho5 7
        have ho5c8 := cell_of_block ho5 8
        simp at ho5c0 ho5c1 ho5c2 ho5c3 ho5c4 ho5c5 ho5c6 ho5c7 ho5c8
        clear h1 h2 h3 h4 h6 h7 h8 h9 h10 h11 h12 hT1 hW1 hk hph hoki ho4 ho5 hir1 his1 htt hgw hX hon
        go_upto_if 133 with fail
        refine wp_cut (fun a' w' => ∃ u', (u' 30 = .pointer (some ⟨ob, 0, none⟩) ∧ Hid (Keeps [] w4 w')) ∧ a' = actP (.slice A0 T c0) (.int .u32 iss) (.int .u32 irs) (.int .u16 mss) (.pointer (some ⟨sb, 0, none⟩)) (.pointer (some ⟨x, 0, none⟩)) (.slice (some ⟨gb, o, none⟩) l.length c15) (.int .u16 win) v18 v19 (.func (Fn.func 21) #[] #[.pointer (some ⟨bm, 0, none⟩), .pointer (some ⟨bl, 0, none⟩), .pointer (some ⟨bm + 1, 0, none⟩)]) v23 (.slice A24 G' c24) (.bool true) v26 v27 v28 (.int .i64 j) v34 u') ?_ ?_
        · rintro a' wc ⟨u, ⟨h30, HKC⟩, rfl⟩
          unfold actP
          have HA5 := Lib.hid (HA4.out.keep0 HKC.out)
          have HO6 := Lib.hid ((HKC.out.block ob (lt_of_block HO5.out) (by simp)).trans HO5.out)
          have HD5 := Lib.hid (HDD.out.1.keepN HKC.out (fun b hb => by cases hb))
          clear ho5c0 ho5c1 ho5c2 ho5c3 ho5c4 ho5c5 ho5c6 ho5c7 ho5c8 HA4 HI4 HO4 HO5 s0 s1 d1 d2 d2' HKC
          go_wp2_with fail
          refine (drop_any HA5.out.mm HBL.out hl60 (by omega)).mono ?_
          rintro e5 w5 ⟨rfl, hM5, k5⟩
          obtain ⟨lo', hlo⟩ : ∃ b, lostB ls m' = b := ⟨_, rfl⟩
          rw [hlo] at hM5 ⊢
          have HA6 := Lib.hid (HA5.out.drop hM5 k5)
          have HZ5 := Lib.hid (show ob < w5.heap.size from by have := lt_of_block HO6.out; have := k5.size; omega)
          have ho6 := (k5.block ob (lt_of_block HO6.out) (by simp; omega)).trans HO6.out
          have HO7 := Lib.hid ho6
          have HD6 := Lib.hid (HD5.out.keepN k5 (fun b hb => by
            simp only [List.mem_cons, List.not_mem_nil, or_false] at hb
            rcases hb with rfl | rfl
            · exact .inl (int_noU8 HA5.out.mm.hbm)
            · exact .inl (int_noU8 HA5.out.mm.hbg)))
          have HLO := Lib.hid hlo
          clear hM5 k5 hlo ho6 HO6 HD5 HA5
          cases lo'
          · have hs5 := HA6.out.mm.hsb
            have s0 := cell_of_block hs5 0
            have s1 := cell_of_block hs5 1
            have ho6 := HO7.out
            simp at s0 s1
            have ho6c0 := cell_of_block ho6 0
            have ho6c1 := cell_of_block ho6 1
            have ho6c2 := cell_of_block ho6 2
            have ho6c3 := cell_of_block ho6 3
            have ho6c4 := cell_of_block ho6 4
            have ho6c5 := cell_of_block ho6 5
            have ho6c6 := cell_of_block ho6 6
            have ho6c7 := cell_of_block ho6 7
            have ho6c8 := cell_of_block ho6 8
            simp at ho6c0 ho6c1 ho6c2 ho6c3 ho6c4 ho6c5 ho6c6 ho6c7 ho6c8
            have ho6k := fun ob' => keeps_cell0 (o := ob') ho6c4
            clear hs5 ho6
            go_upto_if 217 with fail
            refine wp_gn (fun W6 hW6 => ?_)
            have k6 : Keeps [] w5 W6 := by rw [hW6]; exact Keeps.alloc _ _ _
            have ha6 : W6.heap[w5.heap.size]? = some (.cells #[.int .u16 2, .int .u16 1, .int .u32 ir1, .int .u32 is1, .int .u8 16, .int .u16 win, .int .u16 0, .slice none 0 0, .slice none 0 0] 39 (0, 0)) := by rw [hW6]; exact (MapKept.heap_alloc w5 _).1
            obtain ⟨ab, habn⟩ : ∃ ab, w5.heap.size = ab := ⟨_, rfl⟩
            rw [habn] at ha6
            simp only [habn]
            have HAB := Lib.hid habn
            have hoa : ob < ab := by rw [← habn]; exact lt_of_block HO7.out
            have ho7 := (k6.block ob (lt_of_block HO7.out) (by simp)).trans HO7.out
            have HO8 := Lib.hid ho7
            have HAc := Lib.hid ha6
            have K6 := Lib.hid k6
            have HD7 := Lib.hid (HD6.out.keepN k6 (fun b hb => by cases hb))
            clear hW6 k6 ha6 ho7 s0 s1 habn HO7 ho6c0 ho6c1 ho6c2 ho6c3 ho6c4 ho6c5 ho6c6 ho6c7 ho6c8 ho6k HD6
            refine wp_cut (fun a' w' => ∃ v24' u', (u' 30 = .pointer (some ⟨ob, 0, none⟩) ∧ u' 32 = .pointer (some ⟨ab, 0, none⟩) ∧ Hid (∀ W'', Keeps [ab] w' W'' → AllM W iss irs D1 D2 M win mss sb bm bl L ls.length lc lo hi x W'' (m' + 1) g' r e v24' (gotS G' a n) sz v28 lb lb bk 0 (.slice (some ⟨gb, o, none⟩) l.length c15) l (l.drop j) (its.drop j)) ∧ Hid (w'.heap[ab]? = some (.cells #[.int .u16 2, .int .u16 1, .int .u32 ir1, .int .u32 is1, .int .u8 16, .int .u16 win, .int .u16 0, .slice none 0 0, .slice none 0 0] 39 (0, 0))) ∧ Hid (w'.heap[ob]? = some (.cells #[.int .u16 1, .int .u16 2, .int .u32 sq, .int .u32 ir1, .int .u8 fl, .int .u16 0, .int .u16 0, .slice none 0 0, .slice dA n dC] 39 (0, 0))) ∧ Hid (W6.heap.size ≤ w'.heap.size)) ∧ a' = actP (.slice A0 T c0) (.int .u32 iss) (.int .u32 irs) (.int .u16 mss) (.pointer (some ⟨sb, 0, none⟩)) (.pointer (some ⟨x, 0, none⟩)) (.slice (some ⟨gb, o, none⟩) l.length c15) (.int .u16 win) v18 v19 (.func (Fn.func 21) #[] #[.pointer (some ⟨bm, 0, none⟩), .pointer (some ⟨bl, 0, none⟩), .pointer (some ⟨bm + 1, 0, none⟩)]) v23 v24' (.bool true) v26 v27 v28 (.int .i64 j) v34 u') ?_ ?_
            · rintro a' wd ⟨v24', u, ⟨h30, h32, HAL, HAd, HOd, HSd⟩, rfl⟩
              unfold actP
              have hgot := (HAL.out wd (Keeps.refl _ _)).got
              obtain ⟨A25, c25, h25⟩ := own_slice hgot.2
              subst h25
              obtain ⟨gg, hgg⟩ : ∃ gg, gotS G' a n = gg := ⟨_, rfl⟩
              rw [hgg] at hgot
              simp only [hgg] at HAL ⊢
              obtain ⟨akv, hakv⟩ : ∃ v, (iss + 1 + (gg : Int)) % 4294967296 = v := ⟨_, rfl⟩
              have hg4 : gg ≤ 400 := by have := hgot.1; have := HN.out.1; omega
              have hwg : IntKind.u32.wrap (gg : Int) = gg := by rw [IntKind.wrap_u32]; omega
              have hwk : IntKind.u32.wrap (is1 + (gg : Int)) = akv := by rw [← hakv, ← HDD.out.2.2.2.2.2.2.2.2.2.2, IntKind.wrap_u32]; unfold addI; omega
              have HGG := Lib.hid (And.intro hgg hakv)
              have had := HAd.out
              have hod := HOd.out
              have hadc0 := cell_of_block had 0
              have hadc1 := cell_of_block had 1
              have hadc2 := cell_of_block had 2
              have hadc3 := cell_of_block had 3
              have hadc4 := cell_of_block had 4
              have hadc5 := cell_of_block had 5
              have hadc6 := cell_of_block had 6
              have hadc7 := cell_of_block had 7
              have hadc8 := cell_of_block had 8
              simp at hadc0 hadc1 hadc2 hadc3 hadc4 hadc5 hadc6 hadc7 hadc8
              have hadf0 := free_of_block had 0
              have hadf1 := free_of_block had 1
              have hadf2 := free_of_block had 2
              have hadf3 := free_of_block had 3
              have hadf4 := free_of_block had 4
              have hadf5 := free_of_block had 5
              have hadf6 := free_of_block had 6
              have hadf7 := free_of_block had 7
              have hadf8 := free_of_block had 8
              have hodc0 := cell_of_block hod 0
              have hodc1 := cell_of_block hod 1
              have hodc2 := cell_of_block hod 2
              have hodc3 := cell_of_block hod 3
              have hodc4 := cell_of_block hod 4
              have hodc5 := cell_of_block hod 5
              have hodc6 := cell_of_block hod 6
              have hodc7 := cell_of_block hod 7
              have hodc8 := cell_of_block hod 8
              simp at hodc0 hodc1 hodc2 hodc3 hodc4 hodc5 hodc6 hodc7 hodc8
              clear had hod hgot hgg hakv hq1 hq2 hq3 hq4 hq5 hq6
              rcases HDD.out.2.1 with ⟨e1, e2, e3⟩ | ⟨e1, hn0⟩
              · have n0 : decide ((0 : Int) < (n : Int)) = false := decide_eq_false (by omega)
                have n0' : decide (0 < n) = false := decide_eq_false (by omega)
                have HE := Lib.hid (And.intro e1 (And.intro e2 e3))
                clear e1 e2 e3
                go_upto_region 43 with fail
                refine wp_gn (fun W9 hW9 => ?_)
                have k9 : Keeps [ab] wd W9 := by rw [hW9]; exact Keeps.setCell wd ⟨ab, 3, none⟩ _
                have HF := Lib.hid (HAL.out W9 k9)
                have ho9 := (k9.block ob (lt_of_block HOd.out) (by simp; omega)).trans HOd.out
                have HZF := Lib.hid (show sz ≤ W9.heap.size from by have := HSZ.out; have := HZ5.out; have := HOB.out; have := HAB.out; have := K6.out.size; have := HSd.out; have := k9.size; omega)
                have ho9c0 := cell_of_block ho9 0
                have ho9c1 := cell_of_block ho9 1
                have ho9c2 := cell_of_block ho9 2
                have ho9c3 := cell_of_block ho9 3
                have ho9c4 := cell_of_block ho9 4
                have ho9c5 := cell_of_block ho9 5
                have ho9c6 := cell_of_block ho9 6
                have ho9c7 := cell_of_block ho9 7
                have ho9c8 := cell_of_block ho9 8
                simp at ho9c0 ho9c1 ho9c2 ho9c3 ho9c4 ho9c5 ho9c6 ho9c7 ho9c8
                clear hW9 k9 ho9 hadc0 hadc1 hadc2 hadc3 hadc4 hadc5 hadc6 hadc7 hadc8 hadf0 hadf1 hadf2 hadf3 hadf4 hadf5 hadf6 hadf7 hadf8 hodc0 hodc1 hodc2 hodc3 hodc4 hodc5 hodc6 hodc7 hodc8
                go_wp2_with fail
                refine Handed.intro (its.length - (j + 1)) (by omega) (HJ2.out _ _ _ ?_)
                have hph := HPH.out
                have h1 := hph.1
                rw [HIT.out.2.2.1, phI_sk HLO.out HDD.out.2.1, if_neg (by have := HE.out.2.1; omega)] at h1
                have hgG : gg = G' := by rw [← HGG.out.1]; exact gotS_no (by have := HE.out.2.1; omega)
                subst hgG
                have hF := HF.out
                exact ⟨_, _, _, _, _, ⟨j + 1, true, gg, m' + 1, g', bk, lb, rfl, by omega, rfl, h1, rfl, hF.re hF.br hF.orr.drop1, by have := hph.2.1; omega, by have := hph.2.2.1; omega, hph.2.2.2.1, hph.2.2.2.2.1, (fun it hm => hph.2.2.2.2.2.1 it (by rw [HIT.out.2.2.1]; exact List.mem_cons_of_mem _ hm)), (fun _ => rfl), HZF.out, (fun h => absurd h HNS.out)⟩, actP_of _ rfl⟩
              · have n0 : decide ((0 : Int) < (n : Int)) = true := decide_eq_true (by omega)
                have n0' : decide (0 < n) = true := decide_eq_true (by omega)
                have HE := Lib.hid (And.intro e1 hn0)
                clear e1 hn0
                go_upto_region 44 with fail
                refine wp_gn (fun W9 hW9 => ?_)
                have k9 : Keeps [ab] wd W9 := by rw [hW9]; exact Keeps.setCell wd ⟨ab, 3, none⟩ _
                have ha9 : W9.heap[ab]? = some (.cells #[.int .u16 2, .int .u16 1, .int .u32 ir1, .int .u32 akv, .int .u8 16, .int .u16 win, .int .u16 0, .slice none 0 0, .slice none 0 0] 39 (0, 0)) := by rw [hW9]; exact heap_setCell_self HAd.out 3 _
                have hF := HAL.out W9 k9
                have HF := Lib.hid hF
                have hszW : sz ≤ W9.heap.size := by have := HSZ.out; have := HZ5.out; have := HOB.out; have := HAB.out; have := K6.out.size; have := HSd.out; have := k9.size; omega
                have hlb1 : lb.length + 1 ≤ 100000 := by have h1 := hF.br.1; have h2 := HPH.out.2.1; have := HN.out; omega
                have ha9c0 := cell_of_block ha9 0
                have ha9c1 := cell_of_block ha9 1
                have ha9c2 := cell_of_block ha9 2
                have ha9c3 := cell_of_block ha9 3
                have ha9c4 := cell_of_block ha9 4
                have ha9c5 := cell_of_block ha9 5
                have ha9c6 := cell_of_block ha9 6
                have ha9c7 := cell_of_block ha9 7
                have ha9c8 := cell_of_block ha9 8
                simp at ha9c0 ha9c1 ha9c2 ha9c3 ha9c4 ha9c5 ha9c6 ha9c7 ha9c8
                clear hW9 k9 ha9 hF hadc0 hadc1 hadc2 hadc3 hadc4 hadc5 hadc6 hadc7 hadc8 hadf0 hadf1 hadf2 hadf3 hadf4 hadf5 hadf6 hadf7 hadf8 hodc0 hodc1 hodc2 hodc3 hodc4 hodc5 hodc6 hodc7 hodc8
                go_wp2_with (at_builtin; refine wpList_append_E gsK rfl (.tmp 275) (.tmp 277) 23 39 sz rfl Tryz.underlying23 Tryz.infoSeg (by rfl) (by decide) v28 lb rfl (HF.out.bo.keep0 (Keeps.alloc [] W9 _)) (some ⟨W9.heap.size, 0, none⟩) 1 [⟨2, 1, ir1, akv, 16, win, 0, none, 0, 0, none, 0, 0⟩] rfl (gs_one (MapKept.heap_alloc W9 _).1) (fun h => by cases h) hlb1 (by simp; omega) ?_; intro v10 w10 o10 g10 a10)
                have hAl := HF.out.keep0 (Keeps.alloc [] W9 (.cells (gsC ⟨2, 1, ir1, akv, 16, win, 0, none, 0, 0, none, 0, 0⟩).toArray 39))
                have hAn : AnV iss irs win mss (W9.alloc (.cells (gsC ⟨2, 1, ir1, akv, 16, win, 0, none, 0, 0, none, 0, 0⟩).toArray 39)) ⟨2, 1, ir1, akv, 16, win, 0, none, 0, 0, none, 0, 0⟩ (.ok gg) := ⟨rfl, rfl, HDD.out.2.2.2.2.2.2.2.2.2.1.symm, HGG.out.2.symm, rfl, rfl, rfl, rfl, rfl, rfl, rfl, rfl, rfl⟩
                have hpb := HPH.out.2.2.2.2.1 HDD.out.2.2.2.2.2.2.2.1
                have hpi := HOK.out.2.2.1 HDD.out.2.2.2.2.2.2.2.1
                have hB := hAl.back (a := ⟨2, 1, ir1, akv, 16, win, 0, none, 0, 0, none, 0, 0⟩) HN.out.2.2.2.2.2 (.inr ⟨HDD.out.2.2.2.2.2.2.2.1, hpb, (fun it hm => hpi it (List.mem_of_mem_drop hm)), (fun h => by cases h)⟩) o10 g10 a10 hAn
                have HBF := Lib.hid (hB.re hB.br hB.orr.drop1)
                have HZF := Lib.hid (show sz ≤ w10.heap.size from Nat.le_trans hszW (Nat.le_trans (Keeps.alloc [] W9 _).size g10.size))
                clear hAl hAn hB o10 g10 a10 hpb hpi
                go_wp2_with fail
                refine Handed.intro (its.length - (j + 1)) (by omega) (HJ2.out _ _ _ ?_)
                have hph := HPH.out
                have h1 := hph.1
                rw [HIT.out.2.2.1, phI_sk HLO.out HDD.out.2.1, if_pos HE.out.2, HGG.out.1] at h1
                have hgG : G' ≤ gg := by rw [← HGG.out.1]; exact gotS_le _ _ _
                refine ⟨_, _, _, _, _, ⟨j + 1, true, gg, m' + 1, g', bk ++ [.ok gg], _, rfl, by omega, rfl, ?_, rfl, HBF.out, by have := hph.2.1; simp; omega, by have := hph.2.2.1; omega, (fun h => by simp at h), (fun hs b hb => ?_), (fun it hm => ?_), (fun _ => rfl), HZF.out, (fun h => absurd h HNS.out)⟩, actP_of _ rfl⟩
                · rw [h1]; simp
                · rcases List.mem_append.1 hb with hb | hb
                  · exact hph.2.2.2.2.1 hs b hb
                  · simp at hb; subst hb; exact fun h => by cases h
                · exact (hph.2.2.2.2.2.1 it (by rw [HIT.out.2.2.1]; exact List.mem_cons_of_mem _ hm)).mono hgG (HOK.out.2.2.1 HDD.out.2.2.2.2.2.2.2.1 it (List.mem_of_mem_drop hm))
            · intro J4 K4 hJ4 hK4
              have HJ4 := Lib.hid hJ4
              clear hJ4
              have ho8 := HO8.out
              have ho8c0 := cell_of_block ho8 0
              have ho8c1 := cell_of_block ho8 1
              have ho8c2 := cell_of_block ho8 2
              have ho8c3 := cell_of_block ho8 3
              have ho8c4 := cell_of_block ho8 4
              have ho8c5 := cell_of_block ho8 5
              have ho8c6 := cell_of_block ho8 6
              have ho8c7 := cell_of_block ho8 7
              have ho8c8 := cell_of_block ho8 8
              simp at ho8c0 ho8c1 ho8c2 ho8c3 ho8c4 ho8c5 ho8c6 ho8c7 ho8c8
              clear ho8
              have HSK := Lib.hid (fun W'' (k : Keeps [ab] W6 W'') => HA6.out.keep0 (w' := W'') (((K6.out.mono (T := [ab]) (by simp)).trans k).fresh (by intro z hz hlt; simp at hz; have := HAB.out; omega)))
              by_cases hg1 : a ≤ G'
              · have e1 : decide ((a : Int) ≤ (G' : Int)) = true := decide_eq_true (by omega)
                have e1' : decide (a ≤ G') = true := decide_eq_true hg1
                by_cases hg2 : G' < tt
                · have e2 : decide ((G' : Int) < (tt : Int)) = true := decide_eq_true (by omega)
                  have e2' : decide (G' < tt) = true := decide_eq_true hg2
                  obtain ⟨d, hd⟩ : ∃ d, G' - a = d := ⟨_, rfl⟩
                  have hdi : (G' : Int) - a = d := by omega
                  have hdw : IntKind.i64.wrap (d : Int) = d := by rw [IntKind.wrap_i64]; omega
                  have hat := HDD.out.2.2.2.1
                  have hdn : (d : Int) ≤ n := by omega
                  have hf := HD7.out.1.form
                  have hnc : (n : Int) ≤ dC := by omega
                  have hdc : (d : Int) ≤ dC := by omega
                  obtain ⟨X2, hX2⟩ : ∃ X, (if dC = d then dA else Option.map (fun x : Addr => x.add d) dA) = X := ⟨_, rfl⟩
                  have hB2 : BytesV W6 (.slice X2 (n - d) (dC - d)) (((((D1 ++ D2).drop a).take n).drop d).take (n - d)) := HD7.out.1.fromXe (k := d) (e := n) (by omega) (Nat.le_refl _) hX2
                  have HB2 := Lib.hid hB2
                  have HGD := Lib.hid (And.intro hg1 (And.intro hg2 (And.intro hd hf)))
                  have HG6 := Lib.hid (own_keeps HA6.out.got.2 K6.out)
                  have hbl2 : (((((D1 ++ D2).drop a).take n).drop d).take (n - d)).length ≤ 400 := by simp only [List.length_take, List.length_drop]; omega
                  have hh6 : hi ≤ W6.heap.size := by have := HN.out; have := HSZ.out; have := HZ5.out; have := HOB.out; have := K6.out.size; omega
                  clear hf hB2 hg1 hg2 hd hat
                  go_upto_region 41 with fail
                  go_wp2_with (at_builtin; refine wpList_append_bytes rfl (.tmp 249) (.tmp 256) hi 37 5 rfl Tryz.underlying37 Tryz.infoU8 (.slice A24 G' c24) G' ((D1 ++ D2).take G') rfl HG6.out _ (((((D1 ++ D2).drop a).take n).drop d).take (n - d)) rfl HB2.out (by omega) hh6 ?_; intro v9 w9 o9 g9 a9 _)
                  have hgs : gotS G' a n = tt := by rw [gotS_yes HGD.out.1 (by have := HGD.out.2.1; have := HDD.out.2.2.2.1; omega)]; exact HDD.out.2.2.2.1
                  have htk := got_take (D := D1 ++ D2) (n := n) HGD.out.1 (by have := HGD.out.2.1; have := HDD.out.2.2.2.1; omega)
                  rw [HGD.out.2.2.1, HDD.out.2.2.2.1] at htk
                  have hlen : G' + (((((D1 ++ D2).drop a).take n).drop d).take (n - d)).length = tt := by
                    have h1 := congrArg List.length htk
                    have h5 := HA6.out.got.1
                    have h6 := HN.out.1
                    have h2 : ((D1 ++ D2).take G').length = G' := by rw [List.length_take]; omega
                    have h3 : ((D1 ++ D2).take tt).length = tt := by rw [List.length_take]; omega
                    rw [List.length_append, h2, h3] at h1
                    exact h1
                  rw [htk, hlen] at o9
                  have ha9 := (g9.block ab (lt_of_block HAc.out) (fun h => (Typ.own HG6.out h.symm).ne ⟨_, _, HAc.out⟩ (by decide) rfl)).trans HAc.out
                  have ho9 := (g9.block ob (lt_of_block HO8.out) (fun h => (Typ.own HG6.out h.symm).ne ⟨_, _, HO8.out⟩ (by decide) rfl)).trans HO8.out
                  have R9 := Lib.hid (show (∀ W'', Keeps [ab] w9 W'' → AllM W iss irs D1 D2 M win mss sb bm bl L ls.length lc lo hi x W'' (m' + 1) g' r e v9 (gotS G' a n) sz v28 lb lb bk 0 (.slice (some ⟨gb, o, none⟩) l.length c15) l (l.drop j) (its.drop j)) from fun W'' kk => by
                    rw [hgs]
                    have hv9 : ∀ i, v9.ownBlock = some i → i ≠ ab := fun i hi he => (Typ.own o9 hi).ne ⟨_, _, ha9⟩ (by decide) he
                    refine HA6.out.gots HDD.out.2.2.2.2.2.2.2.1 (HPH.out.2.2.2.2.1 HDD.out.2.2.2.2.2.2.2.1) (fun it hm => HOK.out.2.2.1 HDD.out.2.2.2.2.2.2.2.1 it (List.mem_of_mem_drop hm)) ⟨by have := HN.out.1; omega, own_keepsS o9 kk (fun i hi hm => by simp at hm; exact hv9 i hi hm)⟩ ⟨?_, ?_, ?_, ?_, ?_⟩ ?_
                    · rw [kk.os, g9.os, K6.out.os]
                    · rw [kk.tape, g9.tape, K6.out.tape]
                    · rw [kk.output, g9.output, K6.out.output]
                    · have := K6.out.size; have := g9.size; have := kk.size; omega
                    · intro i hi hne
                      have h1 := K6.out.size
                      have h2 := g9.size
                      rw [kk.block i (by omega) (by simp; have := HAB.out; omega), g9.block i (by omega) hne, K6.out.block i hi (by simp)]
                    · rcases a9 with h | h
                      · exact .inl h
                      · exact .inr ⟨_, h, K6.out.size⟩)
                  have HA9 := Lib.hid ha9
                  have HO9 := Lib.hid ho9
                  have HS9 := Lib.hid g9.size
                  clear o9 g9 a9 ha9 ho9 htk hlen hgs
                  go_wp2_with fail
                  refine Met.intro (HJ4.out _ _ ?_)
                  exact ⟨_, _, ⟨rfl, rfl, R9, HA9, HO9, HS9⟩, actP_of _ rfl⟩
                · have e2 : decide ((G' : Int) < (tt : Int)) = false := decide_eq_false (by omega)
                  have e2' : decide (G' < tt) = false := decide_eq_false hg2
                  have HGN := Lib.hid (gotS_no (G := G') (a := a) (n := n) (by have := HDD.out.2.2.2.1; omega))
                  clear hg1 hg2
                  go_wp2_with fail
                  refine Met.intro (HJ4.out _ _ ?_)
                  exact ⟨_, _, ⟨rfl, rfl, by rw [HGN.out]; exact HSK, HAc, HO8, Lib.hid (Nat.le_refl _)⟩, actP_of _ rfl⟩
              · have e1 : decide ((a : Int) ≤ (G' : Int)) = false := decide_eq_false (by omega)
                have e1' : decide (a ≤ G') = false := decide_eq_false hg1
                have HGN := Lib.hid (gotS_no (G := G') (a := a) (n := n) (fun h => hg1 h.1))
                clear hg1
                go_wp2_with fail
                refine Met.intro (HJ4.out _ _ ?_)
                exact ⟨_, _, ⟨rfl, rfl, by rw [HGN.out]; exact HSK, HAc, HO8, Lib.hid (Nat.le_refl _)⟩, actP_of _ rfl⟩
          · clear hq1 hq2 hq3 hq4 hq5 hq6
            go_wp2_with fail
            refine Handed.intro (its.length - (j + 1)) (by omega) (HJ2.out _ _ _ ?_)
            have hph := HPH.out
            have hA := HA6.out
            refine ⟨_, _, _, _, _, ⟨j + 1, true, G', m' + 1, g' + 1, bk, lb, rfl, by omega, rfl, ?_, rfl, hA.re hA.br hA.orr.drop1, by have := hph.2.1; omega, by have := hph.2.2.1; omega, hph.2.2.2.1, hph.2.2.2.2.1, (fun it hm => hph.2.2.2.2.2.1 it (by rw [HIT.out.2.2.1]; exact List.mem_cons_of_mem _ hm)), (fun _ => rfl), (by have := HSZ.out; have := HZ5.out; have := HOB.out; omega), (fun h => absurd h HNS.out)⟩, actP_of _ rfl⟩
            have h1 := hph.1
            rw [HIT.out.2.2.1, phI_lost HLO.out] at h1
            exact h1
        · intro J3 K3 hJ3 hK3
          have HJ3 := Lib.hid hJ3
          clear hJ3
          obtain ⟨bx, hbx⟩ : ∃ z : ByteArray, (⟨(((D1 ++ D2).drop a).take n).toArray⟩ : ByteArray) = z := ⟨_, rfl⟩
          have hs1 : ∀ q, (convert 37 9 (.slice dA n dC)).run Tryz.prog (w4.drewN q) = .ok (.string bx) (w4.drewN q) := fun q => by
            rw [← hbx]
            exact (HDD.out.1.1.keep0 (Keeps.drewN [] w4 q)).str0 (P := Tryz.prog) 37 9 5 Tryz.underlying37 Tryz.underlying5 Tryz.underlying9
          have hs2 : ∀ q, (convert 37 9 (.slice X (tt - a) (c0 - a))).run Tryz.prog (w4.drewN q) = .ok (.string bx) (w4.drewN q) := fun q => by
            rw [← hbx]
            have hb := (HBS.out.keep0 (HA4.out.mm.kp.trans (Keeps.drewN [] w4 q))).fromXe (k := a) (e := tt) (by have := HDD.out.2.2.2.1; omega) hTt HDD.out.2.2.2.2.2.2.1
            rw [show ((D1 ++ D2).drop a).take (tt - a) = ((D1 ++ D2).drop a).take n by congr 1; have := HDD.out.2.2.2.1; omega] at hb
            exact hb.str0 (P := Tryz.prog) 37 9 5 Tryz.underlying37 Tryz.underlying5 Tryz.underlying9
          have z1 : (a : Int) ≤ tt := by omega
          have z2 : (tt : Int) ≤ c0 := by omega
          have z3 : (a : Int) ≤ c0 := by omega
          have z0 : (0 : Int) ≤ a := by omega
          have hX := HDD.out.2.2.2.2.2.2.1
          have hgi : (G' : Int) + win = gw := by have := HDD.out.2.2.2.2.1; omega
          have hgi2 : IntKind.i64.wrap (gw : Int) = gw := by have := HDD.out.2.2.2.2.1; rw [IntKind.wrap_i64]; omega
          obtain ⟨nb, hnb⟩ : ∃ nb, decide ((1 : Int) < (n : Int)) = nb := ⟨_, rfl⟩
          have hnb' : decide (1 < n) = nb := by rw [← hnb, Bool.eq_iff_iff, decide_eq_true_iff, decide_eq_true_iff]; omega
          cases nb
          · clear hbx
            go_upto_region 30 with fail
            go_quiet (fail)
            go_wp2_with fail
            refine Met.intro (HJ3.out _ _ ?_)
            exact ⟨_, ⟨rfl, Lib.hid (Keeps.drewN [] w4 _)⟩, actP_of _ rfl⟩
          · have d3 : decide ((gw : Int) < tt) = false := decide_eq_false (by have h1 := of_decide_eq_true hnb; have := HDD.out.2.2.1; have := HDD.out.2.2.2.1; have := HDD.out.2.2.2.2.1; omega)
            have d3' : decide (gw < tt) = false := decide_eq_false (by have h1 := of_decide_eq_true hnb; have := HDD.out.2.2.1; have := HDD.out.2.2.2.1; have := HDD.out.2.2.2.2.1; omega)
            clear hbx
            go_upto_region 30 with fail
            go_quiet (fail)
            go_wp2_with fail
            refine Met.intro (HJ3.out _ _ ?_)
            exact ⟨_, ⟨rfl, Lib.hid (Keeps.drewN [] w4 _)⟩, actP_of _ rfl⟩
    · have hje : j = its.length := by omega
      have hjI : ¬ (j : Int) < (l.length : Int) := by have := HLL.out; omega
      have HA := Lib.hid hA
      have HPH := Lib.hid (And.intro hphi (And.intro hbl' (And.intro hm' hszr)))
      clear hA hphi hbl' hnil hpb hokj hop hszr
      go_wp2_with fail
      refine Met.intro ?_
      rw [actP_of _ rfl]
      refine HJ.out _ _ _ _ _ _ ?_
      have hA := HA.out
      have h1 := HPH.out.1
      rw [hje, List.drop_length] at h1
      simp only [phI, List.append_nil] at h1
      rw [hje, List.drop_length, show its.length = l.length from HLL.out.symm, List.drop_length] at hA
      exact ⟨op, G', m', g', bk, lb, h1, rfl, hA, by have := HPH.out.2.1; omega, by have := HPH.out.2.2.1; omega, HPH.out.2.2.2, HV24.out⟩
end Go.Proofs.YtakgohocimlagaaGreat
