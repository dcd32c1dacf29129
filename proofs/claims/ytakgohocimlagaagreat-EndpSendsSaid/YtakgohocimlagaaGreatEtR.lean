/-
  EndpSends (9): the end's turn, walked. Condition: numbers are in the ranges of their kinds. EndpSends (10): what comes of the peer's turn and the end's, plainly. No condition. EndpSends (11): State, Alarm, Tick, Write of each state, as the law's walk asks them. Condition: numbers are in the ranges of their kinds.
-/
import Derived.Test.YtakgohocimlagaaGreatEtQ
namespace Go.Proofs.YtakgohocimlagaaGreat
open Go.RowKit Go.Lib
set_option linter.unusedVariables false
set_option linter.unusedSimpArgs false

/-- the end's turn, in its midst -/
def EndR (W : World) (iss irs : Int) (D1 D2 : List UInt8) (M win : Nat) (mss : Int) (sb bm bl : Nat) (L : Option Addr) (ls : List Bool) (lc lo hi x : Nat) (e0 : ET) (m0 g0 now sz bb : Nat) (v28 : Value) (lb : List GS) (bk : List An) (v24 : Value) (G : Nat) (gk : Nat) (v15 v34 : Value) (wx : World) : Prop :=
  ∃ j e m g r its l, v34 = .int .i64 (j : Nat) ∧ j ≤ bk.length ∧ gk = bk.length - j ∧
    phE ls D1.length (D1 ++ D2).length win M now e0 m0 g0 bk = (its ++ (phE ls D1.length (D1 ++ D2).length win M now e m g (bk.drop j)).1, (phE ls D1.length (D1 ++ D2).length win M now e m g (bk.drop j)).2) ∧
    OkL e (bk.drop j) ∧ AllM W iss irs D1 D2 M win mss sb bm bl L ls.length lc lo hi x wx m g r e v24 G bb v28 lb (lb.drop j) (bk.drop j) sz v15 l l its ∧ m = m0 + j ∧
    ((∃ c w a, e = .op c w a) → v15 = .slice none 0 0 ∧ its = []) ∧ (∀ it ∈ its, it ≠ .syn) ∧ sz ≤ wx.heap.size
/-- at its end -/
def EndE (W : World) (iss irs : Int) (D1 D2 : List UInt8) (M win : Nat) (mss : Int) (sb bm bl : Nat) (L : Option Addr) (ls : List Bool) (lc lo hi x : Nat) (e0 : ET) (m0 g0 now sz bb : Nat) (v28 : Value) (lb : List GS) (bk : List An) (v24 : Value) (G : Nat) (v15 : Value) (wx : World) : Prop :=
  ∃ e m g r its l, phE ls D1.length (D1 ++ D2).length win M now e0 m0 g0 bk = (its, e, m, g) ∧
    AllM W iss irs D1 D2 M win mss sb bm bl L ls.length lc lo hi x wx m g r e v24 G bb v28 lb [] [] sz v15 l l its ∧ m = m0 + bk.length ∧
    ((∃ c w a, e = .op c w a) → v15 = .slice none 0 0 ∧ its = []) ∧ (∀ it ∈ its, it ≠ .syn) ∧ sz ≤ wx.heap.size
theorem phE_lost {ls : List Bool} {h T win M now : Nat} {e : ET} {m g : Nat} {b : An} {r : List An} (hl : lostB ls m = true) : phE ls h T win M now e m g (b :: r) = phE ls h T win M now e (m + 1) (g + 1) r := by
  conv => lhs; unfold phE
  rw [if_pos hl]
theorem phE_take {ls : List Bool} {h T win M now : Nat} {e : ET} {m g : Nat} {b : An} {r : List An} (hl : lostB ls m = false) : phE ls h T win M now e m g (b :: r) = (outE h T win M now e b ++ (phE ls h T win M now (nextE h T win now e b) (m + 1) g r).1, (phE ls h T win M now (nextE h T win now e b) (m + 1) g r).2) := by
  conv => lhs; unfold phE
  rw [hl]
  rfl
theorem outE_plain {h T win M now : Nat} {e : ET} {b : An} : ∀ it ∈ outE h T win M now e b, it ≠ .syn := by
  intro it hm
  unfold outE at hm
  split at hm
  · rcases List.mem_cons.1 hm with h0 | h0
    · rw [h0]; exact fun h => by cases h
    · obtain ⟨o, _, rfl⟩ := List.mem_map.1 h0
      exact fun h => by cases h
  · obtain ⟨o, _, rfl⟩ := List.mem_map.1 hm
    exact fun h => by cases h
  · cases hm
theorem okl_plain {s : SE} {l : List An} (h : OkL (.on s) l) : ∀ b ∈ l, b ≠ .syn := by
  obtain ⟨ns, rfl, _⟩ := h
  intro b hb
  obtain ⟨n, _, rfl⟩ := List.mem_map.1 hb
  exact fun h => by cases h
set_option maxRecDepth 100000 in
set_option maxHeartbeats 8000000 in
theorem end_walk {W : World} {iss irs : Int} {D1 D2 : List UInt8} {M win : Nat} {mss : Int} {sb bm bl : Nat} {L : Option Addr} {ls : List Bool} {lc lo hi x r0 : Nat} {e0 : ET} {m0 g0 now sz bb : Nat} {A28 : Option Addr} {c28 : Nat} {lb : List GS} {bk : List An} {v24 : Value} {G : Nat} {w1 : World}
    (u0 : U32 iss) (u1 : U32 irs) (q0 : 0 ≤ mss) (q1 : mss ≤ 65535) (hM : min (max mss 88) 1460 = (M : Int)) (m1 : 1 ≤ M ∧ M ≤ 1460) (hw5 : 1 ≤ win ∧ win ≤ 500) (hD4 : D1.length ≤ 400) (hbl : BoolsV W L ls) (hl60 : ls.length ≤ 60) (hF : (phE ls D1.length (D1 ++ D2).length win M now e0 m0 g0 bk).1.length ≤ 801) (hbk : bk.length ≤ 801) (hm0 : m0 ≤ 200000000) (hnow : now ≤ 4398046511104) (hsz : sz = w1.heap.size) (hhi : hi ≤ sz)
    (hok : OkL e0 bk) (hA : AllM W iss irs D1 D2 M win mss sb bm bl L ls.length lc lo hi x w1 m0 g0 r0 e0 v24 G bb (.slice A28 lb.length c28) lb lb bk 0 (.slice none 0 0) [] [] [])
    (v0 v1 v2 v4 v13 v17 v18 v19 v25 v26 v27 v29 : Value) (u : Nat → Value) (J K : Act → World → Prop) (Q : Exit → Act → World → Prop)
    (hJ : ∀ v15 v34 u' w', EndE W iss irs D1 D2 M win mss sb bm bl L ls lc lo hi x e0 m0 g0 now sz bb (.slice A28 lb.length c28) lb bk v24 G v15 w' → J (actP v0 v1 v2 v4 v13 (.pointer (some ⟨x, 0, none⟩)) v15 v17 v18 v19 (.func (Fn.func 21) #[] #[.pointer (some ⟨bm, 0, none⟩), .pointer (some ⟨bl, 0, none⟩), .pointer (some ⟨bm + 1, 0, none⟩)]) (.int .u64 now) v24 v25 v26 v27 (.slice A28 lb.length c28) v29 v34 u') w')
    (hK : ∀ a' w', Met J a' w' → K a' w') :
    (blkS 4).wp Tryz.prog (Exit.then K Q) (actP v0 v1 v2 v4 v13 (.pointer (some ⟨x, 0, none⟩)) (.slice none 0 0) v17 v18 v19 (.func (Fn.func 21) #[] #[.pointer (some ⟨bm, 0, none⟩), .pointer (some ⟨bl, 0, none⟩), .pointer (some ⟨bm + 1, 0, none⟩)]) (.int .u64 now) v24 v25 v26 v27 (.slice A28 lb.length c28) v29 (.int .i64 0) u) w1 := by
  have HA1 := Lib.hid hA
  have HOK := Lib.hid hok
  have HJ := Lib.hid hJ
  have HN := Lib.hid (And.intro hF (And.intro hbk (And.intro hm0 (And.intro hsz hhi))))
  have HBL := Lib.hid hbl
  have HM := Lib.hid (And.intro hM m1)
  have HLL := Lib.hid (show lb.length = bk.length from hA.br.1)
  have hlm : lb.length ≤ 801 := by rw [HLL.out]; exact hbk
  clear hA hok hJ hF hbk hm0 hsz hhi hbl hM m1
  unfold blkS actP
  simp only [Tryz.f5, findB, Option.getD_some, Option.getD_none, Option.or_some, Option.none_or, Option.or_none, if_true, if_false, reduceIte, Nat.reduceEqDiff]
  go_wp2_with fail
  refine wp_loop_ghost_k (fun n a w' => ∃ v15 v34 u', EndR W iss irs D1 D2 M win mss sb bm bl L ls lc lo hi x e0 m0 g0 now sz bb (.slice A28 lb.length c28) lb bk v24 G n v15 v34 w' ∧ a = actP v0 v1 v2 v4 v13 (.pointer (some ⟨x, 0, none⟩)) v15 v17 v18 v19 (.func (Fn.func 21) #[] #[.pointer (some ⟨bm, 0, none⟩), .pointer (some ⟨bl, 0, none⟩), .pointer (some ⟨bm + 1, 0, none⟩)]) (.int .u64 now) v24 v25 v26 v27 (.slice A28 lb.length c28) v29 v34 u') bk.length ?_ ?_
  · have hA := HA1.out
    refine ⟨_, _, _, ⟨0, e0, m0, g0, r0, [], [], rfl, Nat.zero_le _, rfl, by simp, HOK.out, hA.rows hA.bo (by simpa using hA.br) (EK.Own.nil _ _ _ _) (RowV.nil _) hA.ne, rfl, fun _ => ⟨rfl, rfl⟩, (fun it hm => by cases hm), by rw [HN.out.2.2.2.1]; exact Nat.le_refl _⟩, actP_of _ rfl⟩
  · rintro n a wr ⟨v15, v34, u, hrel, rfl⟩ J2 K2 hJ2 hK2
    obtain ⟨j, e, m', g', r, its, l, rfl, hj, rfl, hph, hokl, hA, hm', hop, hpl, hszr⟩ := hrel
    have HJ2 := Lib.hid hJ2
    clear hJ2
    unfold actP
    by_cases hjl : j < bk.length
    · obtain ⟨b, hb⟩ : ∃ b, bk[j]? = some b := ⟨_, List.getElem?_eq_getElem hjl⟩
      obtain ⟨gs, hgs⟩ : ∃ gs, lb[j]? = some gs := ⟨_, List.getElem?_eq_getElem (by have := HLL.out; omega)⟩
      have hdb := drop_cons hb
      have hjI : (j : Int) < (lb.length : Int) := by have := HLL.out; omega
      have hj1 : IntKind.i64.wrap ((j : Int) + 1) = (j : Int) + 1 := by rw [IntKind.wrap_i64]; omega
      have hmb : m' + 2 ≤ 1000000000000 := by have := HN.out; omega
      have HA := Lib.hid hA
      have HPH := Lib.hid (And.intro hph (And.intro hokl (And.intro hm' (And.intro hop (And.intro hpl hszr)))))
      have HIT := Lib.hid (And.intro hb (And.intro hgs (And.intro hdb hjl)))
      clear hA hph hokl hm' hop hpl hszr hb hgs hdb
      go_wp2_with fail
      refine (drop_any HA.out.mm HBL.out hl60 (by omega)).mono ?_
      rintro e5 w5 ⟨rfl, hM5, k5⟩
      obtain ⟨lo', hlo⟩ : ∃ b, lostB ls m' = b := ⟨_, rfl⟩
      rw [hlo] at hM5 ⊢
      have HA5 := Lib.hid (HA.out.drop hM5 k5)
      have HZ5 := Lib.hid k5.size
      have HLO := Lib.hid hlo
      clear hM5 k5 hlo HA
      cases lo'
      · have hI := HA5.out.br.head HIT.out.2.1 HIT.out.1
        obtain ⟨A', c', he, hat, _⟩ := EK.Own.at_ HA5.out.bo
        injection he with he1 he2 he3
        subst he1 he3
        obtain ⟨gb, o, rfl, hcells⟩ : ∃ gb o, A28 = some ⟨gb, o, none⟩ ∧ ∀ q u, (gsC gs)[q]? = some u → w5.cell? ⟨gb, o + j * 9 + q, none⟩ = some u := by
          rcases hat with h0 | ⟨gb, o, h1, h2⟩
          · have h3 := HIT.out.2.1; rw [h0] at h3; simp at h3
          · exact ⟨gb, o, h1, fun q u hu => h2 j gs HIT.out.2.1 q u hu⟩
        have HI := Lib.hid hI
        obtain ⟨sp, dp, sq, ak, fl, wn, ug, oA, oN, oC, dA, dN, dC⟩ := gs
        have f0 := hcells 0 _ rfl
        have f1 := hcells 1 _ rfl
        have f2 := hcells 2 _ rfl
        have f3 := hcells 3 _ rfl
        have f4 := hcells 4 _ rfl
        have f5 := hcells 5 _ rfl
        have f6 := hcells 6 _ rfl
        have f7 := hcells 7 _ rfl
        have f8 := hcells 8 _ rfl
        simp only [Nat.add_zero] at f0
        clear hI hat hcells he2
        have hokb : OkB e b := (show OkL e (b :: bk.drop (j + 1)) by rw [← HIT.out.2.2.1]; exact HPH.out.2.1).head
        have HOB := Lib.hid hokb
        clear hokb
        go_wp2_with fail
        refine (take_any (g := ⟨sp, dp, sq, ak, fl, wn, ug, oA, oN, oC, dA, dN, dC⟩) HA5.out.ev HOB.out hD4 u0 u1 HM.out.2.1 HM.out.2.2 hw5.1 hw5.2 mss q0 q1 HM.out.1 HI.out now hnow).mono ?_
        rintro e6 w6 ⟨v6, l6, r', rfl, own6, hrow6, ev6, hr6, k6⟩
        obtain ⟨A6, c6, rfl, at6, hlc6, hcm6, hA6⟩ := EK.Own.at_ own6
        have hAn : A6 = none → l6 = [] := fun h => by
          rcases at6 with h0 | ⟨b, o, h1, _⟩
          · exact h0
          · rw [h1] at h; cases h
        have HR6 := Lib.hid (hrow6 _ (nB_lt HA5.out.got HA5.out.bo HA5.out.oo))
        have HA6 := Lib.hid (HA5.out.took (hi' := hi) (lo' := lo) (.inl rfl) ev6 hr6 k6)
        have HAT := Lib.hid at6
        have hph1 := HPH.out.1
        rw [HIT.out.2.2.1, phE_take HLO.out] at hph1
        have hlen : l.length + l6.length ≤ 100000 := by
          have h1 := HN.out.1
          rw [hph1] at h1
          have h2 := HR6.out.1
          have h3 := HA5.out.orr.1
          dsimp only at h1
          rw [List.length_append, List.length_append] at h1
          omega
        have hsz6 : sz ≤ w6.heap.size := by have := HPH.out.2.2.2.2.2; have := HZ5.out; have := k6.size; omega
        have HZ6 := Lib.hid hsz6
        have HP1 := Lib.hid hph1
        clear own6 hrow6 ev6 hr6 k6 at6 hA6 hlc6 hcm6 hph1 f0 f1 f2 f3 f4 f5 f6 f7 f8
        go_wp2_with (at_builtin; refine wpList_append_E gsK rfl (.tmp 299) (.tmp 300) 23 39 sz rfl Tryz.underlying23 Tryz.infoSeg (by rfl) (by decide) v15 l rfl HA6.out.oo A6 c6 l6 rfl HAT.out hAn hlen hsz6 ?_; intro v10 w10 o10 g10 a10)
        have hnx : OkL (nextE D1.length (D1 ++ D2).length win now e b) (bk.drop (j + 1)) := OkL.next _ _ _ _ (show OkL e (b :: bk.drop (j + 1)) by rw [← HIT.out.2.2.1]; exact HPH.out.2.1)
        have HZ10 := Lib.hid (show sz ≤ w10.heap.size from Nat.le_trans hsz6 g10.size)
        have hW : W.heap.size ≤ sz := by have := HA5.out.zh; have := HN.out; omega
        have hA10 := HA6.out.re (HA6.out.br.drop1) HA6.out.orr
        have hP : v15.ownBlock = none ∨ ((∃ s, nextE D1.length (D1 ++ D2).length win now e b = .on s) ∧ (∀ j, v15.ownBlock = some j → ¬ (lo ≤ j ∧ j < hi)) ∧ (∀ b ∈ bk.drop (j + 1), b ≠ .syn) ∧ (∀ it ∈ its, it ≠ .syn) ∧ ∀ it ∈ outE D1.length (D1 ++ D2).length win M now e b, it ≠ .syn) := by
          match e, b, HOB.out with
          | .op c w a, .syn, _ =>
            rw [(HPH.out.2.2.2.1 ⟨c, w, a, rfl⟩).1]
            exact .inl rfl
          | .on s, .ok n, _ =>
            refine .inr ⟨⟨_, rfl⟩, fun i hi' => ?_, okl_plain (show OkL (.on (s.took (D1 ++ D2).length win 4 now n)) _ from hnx), HPH.out.2.2.2.2.1, outE_plain⟩
            have h1 := (World.ownsRow.lt (show w6.ownsRow _ _ _ _ _ _ from HA6.out.oo) i hi').1
            have := HN.out
            omega
        have hF := hA10.out hW hP o10 g10 a10 HR6.out
        have HF := Lib.hid hF
        have HNX := Lib.hid hnx
        clear hF hP hA10 hnx o10 g10 a10
        go_wp2_with fail
        refine Handed.intro (bk.length - (j + 1)) (by omega) (HJ2.out _ _ _ ?_)
        have hph := HPH.out
        refine ⟨_, _, _, ⟨j + 1, _, m' + 1, g', r', _, _, rfl, by omega, rfl, ?_, HNX.out, HF.out, by have := hph.2.2.1; omega, fun h => ?_, (fun it hm => ?_), HZ10.out⟩, actP_of _ rfl⟩
        · rw [HP1.out]; simp
        · exfalso
          obtain ⟨c, w, a, h⟩ := h
          match e, b, HOB.out, h with
          | .op c w a, .syn, _, h => cases h
          | .on s, .ok n, _, h => cases h
        · rcases List.mem_append.1 hm with hm | hm
          · exact hph.2.2.2.2.1 it hm
          · exact outE_plain it hm
      · go_wp2_with fail
        refine Handed.intro (bk.length - (j + 1)) (by omega) (HJ2.out _ _ _ ?_)
        have hph := HPH.out
        have hA := HA5.out
        have h1 := hph.1
        rw [HIT.out.2.2.1, phE_lost HLO.out] at h1
        exact ⟨_, _, _, ⟨j + 1, e, m' + 1, g' + 1, r, its, l, rfl, by omega, rfl, h1, (show OkL e (b :: bk.drop (j + 1)) by rw [← HIT.out.2.2.1]; exact hph.2.1).lost, hA.re hA.br.drop1 hA.orr, by have := hph.2.2.1; omega, hph.2.2.2.1, hph.2.2.2.2.1, by have := hph.2.2.2.2.2; have := HZ5.out; omega⟩, actP_of _ rfl⟩
    · have hje : j = bk.length := by omega
      have hjI : ¬ (j : Int) < (lb.length : Int) := by have := HLL.out; omega
      have HA := Lib.hid hA
      have HPH := Lib.hid (And.intro hph (And.intro hm' (And.intro hop (And.intro hpl hszr))))
      clear hA hph hokl hm' hop hpl hszr
      go_wp2_with fail
      refine Met.intro ?_
      rw [actP_of _ rfl]
      refine HJ.out _ _ _ _ ?_
      have hA := HA.out
      have h1 := HPH.out.1
      rw [hje, List.drop_length] at h1
      simp only [phE, List.append_nil] at h1
      rw [hje, List.drop_length, show bk.length = lb.length from HLL.out.symm, List.drop_length] at hA
      exact ⟨e, m', g', r, its, l, h1, hA, by have := HPH.out.2.1; omega, HPH.out.2.2.1, HPH.out.2.2.2.1, HPH.out.2.2.2.2⟩
end Go.Proofs.YtakgohocimlagaaGreat

namespace Go.Proofs.YtakgohocimlagaaGreat
set_option linter.unusedVariables false
set_option linter.unusedSimpArgs false

/-- at the head of a step that is made -/
def ComV (D1 D2 : List UInt8) (M win : Nat) (ls : List Bool) (k now m g G : Nat) (its : List It) (e : ET) (op0 wrt : Bool) : Prop :=
  (∃ cnt wait al, e = .op cnt wait al ∧ wrt = false ∧ G = 0 ∧ its = [.syn] ∧ OpInv ls k now m g cnt wait al) ∨
  (∃ s out, e = .on s ∧ op0 = true ∧ wrt = true ∧ its = out.map It.sk ∧ BInv ls (D1 ++ D2).length win M k now m g G s out)
theorem ComV.lt {D1 D2 : List UInt8} {M win : Nat} {ls : List Bool} {k now m g G : Nat} {its : List It} {e : ET} {op0 wrt : Bool} (h : ComV D1 D2 M win ls k now m g G its e op0 wrt) : k < 3000 := by
  rcases h with ⟨cnt, wait, al, _, _, _, _, h⟩ | ⟨s, out, _, _, _, _, h⟩
  · have := h.k; omega
  · exact pot_end h.pot
theorem ComV.ok {D1 D2 : List UInt8} {M win : Nat} {ls : List Bool} {k now m g G : Nat} {its : List It} {e : ET} {op0 wrt : Bool} (h : ComV D1 D2 M win ls k now m g G its e op0 wrt) : (∀ it ∈ its, okI (D1 ++ D2).length win G it) ∧ (∀ it ∈ its.tail, it ≠ .syn) ∧ ((∃ s, e = .on s) → ∀ it ∈ its, it ≠ .syn) ∧ ((∃ s, e = .on s) → op0 = true) ∧ ((∃ s, e = .on s) ∨ its = [.syn]) := by
  rcases h with ⟨cnt, wait, al, rfl, rfl, rfl, rfl, h⟩ | ⟨s, out, rfl, rfl, rfl, rfl, h⟩
  · exact ⟨fun it hm => by simp at hm; subst hm; rfl, fun it hm => by simp at hm, (fun ⟨s, h⟩ => by cases h), (fun ⟨s, h⟩ => by cases h), .inr rfl⟩
  · refine ⟨fun it hm => ?_, fun it hm => ?_, fun _ it hm => ?_, fun _ => rfl, .inl ⟨s, rfl⟩⟩
    · obtain ⟨o, ho, rfl⟩ := List.mem_map.1 hm
      cases o with
      | ack => trivial
      | pc a l =>
        obtain ⟨h1, h2, h3, h4⟩ := h.i.pcs a l ho
        have := h.i.NT
        have := h.i.AG
        exact ⟨h1, by omega, by omega⟩
    · obtain ⟨o, ho, rfl⟩ := List.mem_map.1 (List.mem_of_mem_tail hm)
      exact fun h => by cases h
    · obtain ⟨o, ho, rfl⟩ := List.mem_map.1 hm
      exact fun h => by cases h
theorem ComV.done {D1 D2 : List UInt8} {iss irs : Int} {M win : Nat} {P : Nat → Prop} {ls : List Bool} {k now m g G : Nat} {its : List It} {e : ET} {op0 wrt : Bool} {w : World} {x r : Nat} (h : ComV D1 D2 M win ls k now m g G its e op0 wrt) (hE : EV D1 D2 iss irs M win P w x r e) :
    (∀ W, Keeps [] w W → Calls Tryz.prog 23 #[.pointer (some ⟨x, 0, none⟩)] W fun e w' => e = .returned (.bool false) ∧ Keeps [] W w') ∧ ∃ st : Int, (st = 1 ∨ st = 2) ∧ ∀ W, Keeps [] w W → Calls Tryz.prog 14 #[.pointer (some ⟨x, 0, none⟩)] W fun e w' => e = .returned (.int .i64 st) ∧ W = w' := by
  rcases h with ⟨cnt, wait, al, rfl, rfl, rfl, rfl, h⟩ | ⟨s, out, rfl, rfl, rfl, rfl, h⟩
  · obtain ⟨_, A, c, hA, _⟩ := hE
    exact ⟨fun W k => edone_opening (hA.keep0 k) (by simp [opE]) (by simp [opE]), 1, .inl rfl, fun W k => estate_any (hA.keep0 k) (by simp [opE])⟩
  · refine ⟨fun W k => ?_, 2, .inr rfl, fun W k => ?_⟩
    · have := done_on (hE.keep0 k)
      rw [decide_eq_false (by have := h.lt; omega)] at this
      exact this
    · obtain ⟨_, sk, A, n, c, al, wt, ct, X, hA, _⟩ := hE
      exact estate_any (hA.keep0 k) (by simp [onE])
theorem cutsK_len {mss e : Nat} (hm : 1 ≤ mss) : ∀ {k f : Nat}, (cutsK k mss f e).length ≤ e - f
  | 0, f => by simp [cutsK]
  | k + 1, f => by
    unfold cutsK
    split
    · have := cutsK_len (e := e) hm (k := k) (f := min (f + mss) e)
      simp only [List.length_cons]
      omega
    · simp
theorem ph2_len (ls : List Bool) (T win M now : Nat) (hm : 1 ≤ M) : ∀ (back : List Nat) (s : SE) (m g : Nat), (ph2 ls T win M 4 now s m g back).1.length + s.N ≤ (ph2 ls T win M 4 now s m g back).2.1.N
  | [], s, m, g => by simp [ph2]
  | b :: r, s, m, g => by
    unfold ph2
    split
    · exact ph2_len ls T win M now hm r s (m + 1) (g + 1)
    · have ih := ph2_len ls T win M now hm r (s.took T win 4 now b) (m + 1) g
      have tN := took_N s T win 4 now b
      have hl : (s.sends T win M 4 now b).length ≤ min T (max s.A b + win) - s.N := by
        unfold SE.sends
        rw [ackd_A]
        exact cutsK_len hm
      simp only [List.length_append]
      omega
/-- behind the peer's turn -/
theorem ComV.peer {D1 D2 : List UInt8} {M win : Nat} {ls : List Bool} {k now m g G : Nat} {its : List It} {e : ET} {op0 wrt : Bool} (h : ComV D1 D2 M win ls k now m g G its e op0 wrt) (hM : 1 ≤ M) (hT : (D1 ++ D2).length ≤ 400) {bk : List An} {op : Bool} {G' m' g' : Nat} (hp : phI ls op0 G m g its = (bk, op, G', m', g')) :
    OkL e bk ∧ ∀ now', (phE ls D1.length (D1 ++ D2).length win M now' e m' g' bk).1.length ≤ 801 := by
  have hh : D1.length ≤ 400 := by rw [List.length_append] at hT; omega
  rcases h with ⟨cnt, wait, al, rfl, rfl, rfl, rfl, h⟩ | ⟨s, out, rfl, rfl, rfl, rfl, h⟩
  · rw [phI_syn] at hp
    split at hp
    · cases hp
      exact ⟨.inl rfl, fun now' => by simp [phE]⟩
    · cases hp
      refine ⟨.inr rfl, fun now' => ?_⟩
      unfold phE
      split
      · simp [phE]
      · have := cutsK_len (e := min D1.length win) hM (k := D1.length) (f := 0)
        simp only [phE, outE, List.append_nil, List.length_cons, List.length_map]
        omega
  · rw [phI_on] at hp
    have f := ph1_facts ls s.N out G m g h.i.GN (fun a l ho => (h.i.pcs a l ho).2.2.1)
    have hs := ph1_sorted ls s.N out G m g h.i.GN (fun a l ho => (h.i.pcs a l ho).2.2.1)
    have hAG := h.i.AG
    have hNT := h.i.NT
    generalize hq : ph1 ls G m g out = q at hp f hs
    obtain ⟨p1, p2, p3, p4⟩ := q
    simp only at hp f hs
    cases hp
    refine ⟨⟨p1, rfl, hs, fun n hn => ?_⟩, fun now' => ?_⟩
    · have := f.2.2.2.2 n hn; omega
    · rw [phE_on]
      have h1 := ph2_len ls (D1 ++ D2).length win M now' hM p1 s m' g'
      have h2 := ph2_facts ls (D1 ++ D2).length win M 4 now' G' hM p1 s m' g' (by omega) f.2.1 hNT h.i.all (fun x hx => (f.2.2.2.2 x hx).2)
      simp only [List.length_map]
      have := h2.2.2.2.1
      omega
/-- behind the end's turn -/
theorem ComV.out {D1 D2 : List UInt8} {M win : Nat} {ls : List Bool} {k now m g G : Nat} {its : List It} {e : ET} {op0 wrt : Bool} (h : ComV D1 D2 M win ls k now m g G its e op0 wrt) (hM : 1 ≤ M) (hT : (D1 ++ D2).length ≤ 400) (hL : ls.length ≤ 60) (hk : k ≤ m) {bk : List An} {op : Bool} {G' m' g' : Nat} (hp : phI ls op0 G m g its = (bk, op, G', m', g')) {its' : List It} {e' : ET} {m2 g2 : Nat} (hq : phE ls D1.length (D1 ++ D2).length win M now e m' g' bk = (its', e', m2, g2)) :
    (∃ cnt wait al, wrt = false ∧ e' = .op cnt wait al ∧ its' = [] ∧ its = [.syn] ∧ G' = 0 ∧ now ≤ al ∧ al ≤ now + 4096 ∧ cnt ≤ 10 ∧ wait ≤ 4096 ∧ (cnt = 10 → 10 ≤ g2) ∧ (cnt ≠ 10 → OpInv ls (k + 1) al m2 g2 (cnt + 1) (wait * 2) (al + wait * 2)) ∧ k + 1 ≤ m2) ∨
    (wrt = false ∧ e' = .half (s0N D1.length win now) ∧ its' = .sk .ack :: (cutsK D1.length M 0 (min D1.length win)).map It.sk ∧ op = true ∧ its = [.syn] ∧ G' = 0 ∧ k + 1 ≤ m2 ∧ k + 1 ≤ 61) ∨
    (∃ s' out', wrt = true ∧ op = true ∧ op0 = true ∧ e' = .on s' ∧ its' = out'.map It.sk ∧ AlInv now s' ∧ s'.A ≤ (D1 ++ D2).length ∧ k + 1 ≤ m2 ∧ G' ≤ (D1 ++ D2).length ∧
      (out' = [] → s'.A < (D1 ++ D2).length → s'.cnt = 10 → 10 ≤ g2) ∧
      (out' = [] → s'.A < (D1 ++ D2).length → s'.cnt ≠ 10 → BInv ls (D1 ++ D2).length win M (k + 1) s'.alarm m2 g2 G' (s'.ticked (D1 ++ D2).length win M) [.pc s'.A (s'.tickN (D1 ++ D2).length win M)]) ∧
      (s'.A = (D1 ++ D2).length → G' = (D1 ++ D2).length) ∧
      (out' ≠ [] → s'.A < (D1 ++ D2).length → BInv ls (D1 ++ D2).length win M (k + 1) now m2 g2 G' s' out')) := by
  rcases h with ⟨cnt, wait, al, rfl, rfl, rfl, rfl, h⟩ | ⟨s, out, rfl, rfl, rfl, rfl, h⟩
  · have hw := pow_small h.c10
    have hww := h.w
    have h1 := h.a
    have h2 := h.b
    have h3 := h.c
    have h4 := h.c10
    have h5 := h.k
    rw [phI_syn] at hp
    split at hp
    · rename_i hl
      have := lostB_lt hl
      cases hp
      simp only [phE] at hq
      cases hq
      exact .inl ⟨cnt, wait, al, rfl, rfl, rfl, rfl, rfl, by omega, by omega, by omega, by omega, by omega, (fun hc => h.lost hL hk (Nat.le_refl _) (by omega) (by omega)), by omega⟩
    · cases hp
      unfold phE at hq
      split at hq
      · rename_i hl
        have := lostB_lt hl
        simp only [phE] at hq
        cases hq
        exact .inl ⟨cnt, wait, al, rfl, rfl, rfl, rfl, rfl, by omega, by omega, by omega, by omega, by omega, (fun hc => h.lost hL hk (by omega) (by omega) (by omega)), by omega⟩
      · simp only [phE, outE, nextE, List.append_nil] at hq
        cases hq
        exact .inr (.inl ⟨rfl, rfl, rfl, rfl, rfl, rfl, by omega, by omega⟩)
  · rw [phI_on] at hp
    generalize hp1 : ph1 ls G m g out = p at hp
    obtain ⟨p1, p2, p3, p4⟩ := p
    simp only at hp
    cases hp
    rw [phE_on] at hq
    generalize hq1 : ph2 ls (D1 ++ D2).length win M 4 now s m' g' p1 = q at hq
    obtain ⟨r1, r2, r3, r4⟩ := q
    simp only at hq
    cases hq
    obtain ⟨a1, a2, a3, a4, a5, a6, a7, a8⟩ := h.step hM hT hL hk hp1 hq1
    exact .inr (.inr ⟨r2, r1, rfl, rfl, rfl, rfl, rfl, a1, a2, a3, a4, a5, a6, a7, a8⟩)
end Go.Proofs.YtakgohocimlagaaGreat

namespace Go.Proofs.YtakgohocimlagaaGreat
open Go.RowKit Go.Lib
set_option linter.unusedVariables false
set_option linter.unusedSimpArgs false

theorem op_state {D : List UInt8} {iss : Int} {w : World} {x cnt wait al : Nat} (h : OpV D iss w x cnt wait al) : Calls Tryz.prog 14 #[.pointer (some ⟨x, 0, none⟩)] w fun e w' => e = .returned (.int .i64 1) ∧ w = w' := by
  obtain ⟨A, c, hE, _⟩ := h
  exact estate_any hE (by simp [opE])
theorem half_state {D : List UInt8} {iss irs : Int} {M win : Nat} {w : World} {x r : Nat} {s : SE} (h : HalfV D iss irs M win w x r s) : Calls Tryz.prog 14 #[.pointer (some ⟨x, 0, none⟩)] w fun e w' => e = .returned (.int .i64 2) ∧ w = w' := by
  obtain ⟨_, sk, A, c, al, wt, ct, X, hE, _⟩ := h
  exact estate_any hE (by simp [onE])
theorem on_state {D : List UInt8} {iss irs : Int} {M win : Nat} {P : Nat → Prop} {w : World} {x r : Nat} {s : SE} (h : OnV D iss irs M win P w x r s) : Calls Tryz.prog 14 #[.pointer (some ⟨x, 0, none⟩)] w fun e w' => e = .returned (.int .i64 2) ∧ w = w' := by
  obtain ⟨_, sk, A, n, c, al, wt, ct, X, hE, _⟩ := h
  exact estate_any hE (by simp [onE])
theorem op_alarm {D : List UInt8} {iss : Int} {w : World} {x cnt wait al : Nat} (h : OpV D iss w x cnt wait al) : Calls Tryz.prog 20 #[.pointer (some ⟨x, 0, none⟩)] w fun e w' => e = .returned (.tuple #[.int .u64 al, .bool true]) ∧ w = w' := by
  obtain ⟨A, c, hE, _⟩ := h
  exact ealarm_opening hE rfl rfl
theorem on_alarm {D : List UInt8} {iss irs : Int} {M win : Nat} {P : Nat → Prop} {w : World} {x r : Nat} {s : SE} (h : OnV D iss irs M win P w x r s) : Calls Tryz.prog 20 #[.pointer (some ⟨x, 0, none⟩)] w fun e w' => (∃ (a : Int) (b : Bool), e = .returned (.tuple #[.int .u64 a, .bool b])) ∧ w = w' := by
  by_cases hA : s.A < D.length
  · exact (alarm_on h hA).mono (by rintro e w' ⟨rfl, rfl⟩; exact ⟨⟨_, _, rfl⟩, rfl⟩)
  · have : s.A = D.length := by
      obtain ⟨_, sk, A, n, c, al, wt, ct, X, _, _, hI⟩ := h
      have := hI.AN
      have := hI.NT
      omega
    exact (alarm_none h this).mono (by rintro e w' ⟨rfl, rfl⟩; exact ⟨⟨_, _, rfl⟩, rfl⟩)
theorem op_tick {D E : List UInt8} {iss irs : Int} {w : World} {x cnt wait al : Nat} (h : OpV D iss w x cnt wait al) (hc : cnt < 10) (hw : wait ≤ 4096) (n1 : al ≤ 4398046511104) : Calls Tryz.prog 19 #[.pointer (some ⟨x, 0, none⟩), .int .u64 al] w fun e w' => ∃ b l, e = .returned (.tuple #[.slice (some ⟨b, 0, none⟩) 1 1, .int .i64 0]) ∧ l.length = 1 ∧ gsK.At w' (some ⟨b, 0, none⟩) l ∧ (∀ N : List Nat, RowV (ItV (D ++ E) iss irs w' N) l [.syn]) ∧ OpV D iss w' x (cnt + 1) (wait * 2) (al + wait * 2) ∧ Keeps [x] w w' := by
  obtain ⟨A, c, hE, hb⟩ := h
  refine (etick_opening hE al (Int.le_refl _) (by omega) (by omega) (by omega) (by omega) (by omega) (by omega)).mono ?_
  rintro e w' ⟨g, A', c', rfl, hg, hgb, ho, en, k⟩
  refine ⟨g, [⟨1, 2, iss, 0, 2, 0, 0, A', 3, c', none, 0, 0⟩], rfl, rfl, gs_one hgb, fun N => RowV.one ⟨rfl, rfl, rfl, rfl, rfl, rfl, rfl, ho, rfl, rfl, rfl⟩, ⟨A, c, ?_, hb.keep k (opE_no hE)⟩, k⟩
  have e1 : ((al + wait * 2 : Nat) : Int) = (al : Int) + wait * 2 := by omega
  have e2 : ((wait * 2 : Nat) : Int) = (wait : Int) * 2 := by omega
  have e3 : ((cnt + 1 : Nat) : Int) = (cnt : Int) + 1 := by omega
  rw [e1, e2, e3]
  exact en
theorem op_fail {D : List UInt8} {iss : Int} {w : World} {x cnt wait al : Nat} (h : OpV D iss w x cnt wait al) (hc : cnt = 10) : Calls Tryz.prog 19 #[.pointer (some ⟨x, 0, none⟩), .int .u64 al] w fun e w' => e = .returned (.tuple #[.slice none 0 0, .int .i64 0]) ∧ (∃ S, EndAt w' x S ∧ S.st = 4) ∧ Keeps [x] w w' := by
  obtain ⟨A, c, hE, hb⟩ := h
  refine (etick_opening_full hE al (Int.le_refl _) (by omega)).mono ?_
  rintro e w' ⟨rfl, en, k⟩
  exact ⟨rfl, ⟨_, en, rfl⟩, k⟩
theorem half_write {D E : List UInt8} {iss irs : Int} {M win : Nat} {w : World} {x r : Nat} {s : SE} (h : HalfV D iss irs M win w x r s) (hT : (D ++ E).length ≤ 400) (m0 : 1 ≤ M) (m1 : M ≤ 1460) (w1 : win ≤ 500) (A2 : Option Addr) (n2 c2 : Nat) (hb : BytesV w (.slice A2 n2 c2) E) (now : Nat) (n1 : now ≤ 4398046511104) :
    Calls Tryz.prog 22 #[.pointer (some ⟨x, 0, none⟩), .slice A2 n2 c2, .int .u64 now] w fun e w' => ∃ v l, e = .returned (.tuple #[v, .int .i64 0]) ∧ gsK.Own w' w.heap.size 39 v l ∧ (∀ N : List Nat, (∀ b ∈ N, b < w.heap.size) → RowV (ItV (D ++ E) iss irs w' N) l ((cutsK (D ++ E).length M s.N (min (D ++ E).length (s.A + win))).map It.sk)) ∧ OnV (D ++ E) iss irs M win (fun j => w.heap.size ≤ j ∧ j < w'.heap.size) w' x r { (s.wrote D.length E.length now) with N := max s.N (min (D ++ E).length (s.A + win)) } ∧ Keeps [x, r] w w' := by
  obtain ⟨hxr, sk, A, c, al, wt, ct, X, hE, hA, hX, hI⟩ := h
  obtain ⟨rfl, _, _⟩ := hb.form
  exact write_half hxr hE hA hX hI hT m0 m1 w1 A2 c2 hb now n1
section
variable {W : World} {iss irs : Int} {D1 D2 : List UInt8} {M win : Nat} {mss : Int} {sb bm bl : Nat} {L : Option Addr} {n lc lo hi x : Nat} {w w' : World} {m g r : Nat} {e : ET} {v24 : Value} {G : Nat} {bb : Nat} {v28 : Value} {lb lbr : List GS} {bkr : List An} {ob : Nat} {v15 : Value} {l lr : List GS} {itr : List It}
/-- the end has failed: what is left -/
theorem AllM.failed {w7 : World} (h : AllM W iss irs D1 D2 M win mss sb bm bl L n lc lo hi x w m g r e v24 G bb v28 lb lbr bkr ob v15 l lr itr) (hob : W.heap.size ≤ ob) (k : Keeps [x, r] w w7) (gr : w7.grownBy w' v15.ownBlock) : MM W iss sb bm bl (bm + 1) L n lc w' m g ∧ GotV (D1 ++ D2) hi w' v24 G ∧ (∀ S, EndAt w7 x S → EndAt w' x S) ∧ w.heap.size ≤ w'.heap.size := by
  obtain ⟨t1, t2, u1, u2⟩ := h.ev.typs
  have hx : ∀ b ∈ [x, r], Typ w b 66 ∨ Typ w b 97 := fun b hb => by
    simp only [List.mem_cons, List.not_mem_nil, or_false] at hb
    rcases hb with rfl | rfl
    · exact .inl t1
    · exact t2
  have hr : ∀ b ∈ [x, r], b ∉ nB [v24, v28, v15] := fun b hb hn => by
    rcases h.owns hn with t | t
    · rcases hx b hb with q | q
      · exact q.ne t (by decide) rfl
      · exact q.ne t (by decide) rfl
    · rcases hx b hb with q | q
      · exact q.ne t (by decide) rfl
      · exact q.ne t (by decide) rfl
  have hm : ∀ b ∈ [x, r], W.heap.size ≤ b ∧ b ≠ sb ∧ b ≠ bm ∧ b ≠ bl ∧ b ≠ bm + 1 := fun b hb => by
    refine ⟨?_, ?_⟩
    · simp only [List.mem_cons, List.not_mem_nil, or_false] at hb
      rcases hb with rfl | rfl
      · exact h.zx
      · exact h.zr
    · rcases hx b hb with q | q
      · exact h.mm.typs q (by decide) (by decide) (by decide)
      · exact h.mm.typs q (by decide) (by decide) (by decide)
  have m7 := h.mm.keep k hm
  have g7 := own_keepsS h.got.2 k (fun j hj hs => hr j hs (mem_nB.2 ⟨v24, by simp, hj⟩))
  have o7 : gsK.Own w7 ob 39 v15 l := own_keepsS h.oo k (fun j hj hs => hr j hs (mem_nB.2 ⟨v15, by simp, hj⟩))
  have hs := Nat.le_trans k.size gr.size
  rcases hv : v15.ownBlock with _ | j
  · have k0 : Keeps [] w7 w' := by rw [hv] at gr; exact Keeps.grown0 gr
    exact ⟨m7.keep0 k0, ⟨h.got.1, own_keeps g7 k0⟩, fun S hS => hS.keep0 k0, hs⟩
  · have k0 : Keeps [j] w7 w' := by rw [hv] at gr; exact Keeps.grown gr
    have ht := Typ.own (show w7.ownsRow _ _ _ _ _ _ from o7) hv
    have hj := (World.ownsRow.lt (show w7.ownsRow _ _ _ _ _ _ from o7) j hv).1
    exact ⟨m7.keep k0 (fun b hb => by simp at hb; subst hb; exact ⟨by omega, m7.typs ht (by decide) (by decide) (by decide)⟩), ⟨h.got.1, own_keepsS g7 k0 (fun i hi hm => by simp at hm; subst hm; exact (Typ.own g7 hi).ne ht (by decide) rfl)⟩, fun S hS => hS.keep k0 (fun hm => by simp at hm; exact ht.ne ⟨_, _, hS⟩ (by decide) hm.symm), hs⟩
/-- what the next step begins with -/
theorem AllM.head (h : AllM W iss irs D1 D2 M win mss sb bm bl L n lc lo hi x w m g r e v24 G bb v28 lb lbr bkr ob v15 l lr itr) : MM W iss sb bm bl (bm + 1) L n lc w m g ∧ GotV (D1 ++ D2) hi w v24 G ∧ gsK.Own w 0 39 v15 l ∧ RowV (ItV (D1 ++ D2) iss irs w (nB [v24, .slice none 0 0, v15])) lr itr ∧ W.heap.size ≤ x ∧ W.heap.size ≤ r ∧ W.heap.size ≤ hi ∧ EV D1 D2 iss irs M win (fun j => lo ≤ j ∧ j < hi) w x r e :=
  ⟨h.mm, h.got, own_lower' h.oo (Nat.zero_le _), h.orr.imp (fun a b hb ha => ha.no (fun j hj _ => by
    obtain ⟨v, hv, e⟩ := mem_nB.1 hj
    simp only [List.mem_cons, List.not_mem_nil, or_false] at hv
    rcases hv with rfl | rfl | rfl
    · exact mem_nB.2 ⟨_, by simp, e⟩
    · cases e
    · exact mem_nB.2 ⟨_, by simp, e⟩)), h.zx, h.zr, h.zh, h.ev⟩
end
end Go.Proofs.YtakgohocimlagaaGreat

