/-
  The walk of the law EndpSends. Condition: the arguments are in the ranges of their kinds. The law EndpSends, its arguments opened. No condition.
-/
import Derived.Test.YtakgohocimlagaaGreatEtR
import Derived.Test.YtakgohocimlagaaGreatEtH
import Derived.Test.YtakgohocimlagaaGreatReasmL
import Derived.Deep.CutBlock
import Derived.OpenShut
import Derived.Lib.SmallJoins
import Derived.Deep.Strs
namespace Go.Proofs.YtakgohocimlagaaGreat
open Go.RowKit Go.Lib
set_option linter.unusedVariables false
set_option linter.unusedSimpArgs false

/-- at the head of a step: opening; open; done; failed -/
def PhV (W : World) (iss irs : Int) (D1 D2 : List UInt8) (M win : Nat) (ls : List Bool) (lo hi x r k now m g G : Nat) (its : List It) (v24 v25 v26 : Value) (wr : World) : Prop :=
  (∃ op cnt wait al, v25 = .bool op ∧ v26 = .bool false ∧ G = 0 ∧ its = [.syn] ∧ v24 = .slice none 0 0 ∧ OpInv ls k now m g cnt wait al ∧ EV D1 D2 iss irs M win (fun j => lo ≤ j ∧ j < hi) wr x r (.op cnt wait al)) ∨
  (∃ s out, v25 = .bool true ∧ v26 = .bool true ∧ its = out.map It.sk ∧ BInv ls (D1 ++ D2).length win M k now m g G s out ∧ EV D1 D2 iss irs M win (fun j => lo ≤ j ∧ j < hi) wr x r (.on s)) ∨
  (∃ s, v26 = .bool true ∧ G = (D1 ++ D2).length ∧ s.A = (D1 ++ D2).length ∧ EV D1 D2 iss irs M win (fun j => lo ≤ j ∧ j < hi) wr x r (.on s)) ∨
  (10 ≤ g ∧ ∃ S, EndAt wr x S ∧ S.st = 4)
theorem PhV.parts {W : World} {iss irs : Int} {D1 D2 : List UInt8} {M win : Nat} {ls : List Bool} {lo hi x r k now m g G : Nat} {its : List It} {v24 v25 v26 : Value} {wr : World} (h : PhV W iss irs D1 D2 M win ls lo hi x r k now m g G its v24 v25 v26 wr) :
    (∃ e op0 wrt, v25 = .bool op0 ∧ v26 = .bool wrt ∧ ComV D1 D2 M win ls k now m g G its e op0 wrt ∧ (its = [.syn] → v24 = .slice none 0 0) ∧ EV D1 D2 iss irs M win (fun j => lo ≤ j ∧ j < hi) wr x r e) ∨
    (∃ s, v26 = .bool true ∧ G = (D1 ++ D2).length ∧ s.A = (D1 ++ D2).length ∧ EV D1 D2 iss irs M win (fun j => lo ≤ j ∧ j < hi) wr x r (.on s)) ∨
    (10 ≤ g ∧ ∃ S, EndAt wr x S ∧ S.st = 4) := by
  rcases h with ⟨op, cnt, wait, al, h1, h2, h3, h4, h7, h5, h6⟩ | ⟨s, out, h1, h2, h3, h4, h5⟩ | h | h
  · exact .inl ⟨_, _, _, h1, h2, .inl ⟨cnt, wait, al, rfl, rfl, h3, h4, h5⟩, fun _ => h7, h6⟩
  · exact .inl ⟨_, _, _, h1, h2, .inr ⟨s, out, rfl, rfl, rfl, h3, h4⟩, (fun h => by rw [h3] at h; cases out with | nil => cases h | cons a b => cases h), h5⟩
  · exact .inr (.inl h)
  · exact .inr (.inr h)
theorem ComV.lt8 {D1 D2 : List UInt8} {M win : Nat} {ls : List Bool} {k now m g G : Nat} {its : List It} {e : ET} {op0 wrt : Bool} (h : ComV D1 D2 M win ls k now m g G its e op0 wrt) : k ≤ 863 := by
  rcases h with ⟨cnt, wait, al, _, _, _, _, h⟩ | ⟨s, out, _, _, _, _, h⟩
  · have := h.k; omega
  · have := h.pot; omega
def HeadV (W : World) (iss irs : Int) (D1 D2 : List UInt8) (M win : Nat) (sb bm bl : Nat) (L : Option Addr) (ls : List Bool) (lc x : Nat) (gk : Nat) (v15 v23 v24 v25 v26 v27 : Value) (wr : World) : Prop :=
  ∃ k now m g G its l r lo hi, v27 = .int .i64 (k : Nat) ∧ k ≤ 900 ∧ gk = 3000 - k ∧ v23 = .int .u64 (now : Nat) ∧ now ≤ 4096 * k ∧ MM W iss sb bm bl (bm + 1) L ls.length lc wr m g ∧ k ≤ m ∧ m ≤ 2000 * k ∧ GotV (D1 ++ D2) hi wr v24 G ∧ gsK.Own wr 0 39 v15 l ∧ RowV (ItV (D1 ++ D2) iss irs wr (nB [v24, .slice none 0 0, v15])) l its ∧ its.length ≤ 801 ∧ W.heap.size ≤ x ∧ W.heap.size ≤ r ∧ W.heap.size ≤ hi ∧ hi ≤ wr.heap.size ∧
    PhV W iss irs D1 D2 M win ls lo hi x r k now m g G its v24 v25 v26 wr
set_option maxRecDepth 100000 in
set_option maxHeartbeats 8000000 in
theorem sends_walk (W : World) (iss irs window mss : Int) (u0 : U32 iss) (u1 : U32 irs) (r0 : 0 ≤ window) (r1 : window ≤ 65535) (q0 : 0 ≤ mss) (q1 : mss ≤ 65535) (A0 : Option Addr) (n0 c0 : Nat) (l0 : List UInt8) (hb : BytesV W (.slice A0 n0 c0) l0) (L : Option Addr) (lc : Nat) (ls0 : List Bool) (hls : BoolsV W L ls0) (hlc : ls0.length ≤ lc) (hlm : lc ≤ maxLen) :
    Calls Tryz.prog 5 #[.slice A0 n0 c0, .int .u32 iss, .int .u32 irs, .int .u16 window, .int .u16 mss, .slice L ls0.length lc] W fun e w' => e = .returned (.bool true) ∧ Keeps [] W w' := by
  obtain ⟨hn0, hn1, hn2⟩ := hb.form
  subst hn0
  obtain ⟨S, hS⟩ : ∃ S, S = l0.take 400 := ⟨_, rfl⟩
  obtain ⟨D1, hD1⟩ : ∃ D, D = S.take (S.length / 2) := ⟨_, rfl⟩
  obtain ⟨D2, hD2⟩ : ∃ D, D = S.drop (S.length / 2) := ⟨_, rfl⟩
  obtain ⟨ls, hL⟩ : ∃ ls, ls = ls0.take 60 := ⟨_, rfl⟩
  have hDD : S = D1 ++ D2 := by rw [hD1, hD2, List.take_append_drop]
  obtain ⟨T, hT⟩ : ∃ T, (D1 ++ D2).length = T := ⟨_, rfl⟩
  obtain ⟨h, hh⟩ : ∃ h, D1.length = h := ⟨_, rfl⟩
  have hST : S.length = T := by rw [hDD, hT]
  have hhT : h = T / 2 := by rw [← hh, hD1, List.length_take, hST]; omega
  have hSl : (min (l0.length : Int) 400).toNat = T := by rw [← hST, hS]; simp; omega
  have hT4 : T ≤ 400 := by rw [← hST, hS]; simp; omega
  have hTc : T ≤ c0 := by rw [← hST, hS]; simp; omega
  have hbs : BytesV W (.slice A0 T c0) (D1 ++ D2) := by
    have h1 : T ≤ l0.length := by rw [← hST, hS]; simp; omega
    have := hb.upto h1
    rw [show l0.take T = D1 ++ D2 by rw [← hDD, ← hST, hS]; simp [List.take_eq_take_iff]] at this
    exact this
  obtain ⟨ln, hln⟩ : ∃ ln, ls.length = ln := ⟨_, rfl⟩
  have hLl : (min (ls0.length : Int) 60).toNat = ln := by rw [← hln, hL]; simp; omega
  have hl60 : ln ≤ 60 := by rw [← hln, hL]; simp; omega
  have hllc : ln ≤ lc := by rw [← hln, hL]; simp; omega
  have hbl : BoolsV W L ls := fun i b hi => hls i b (by rw [hL] at hi; rw [List.getElem?_take] at hi; split at hi <;> first | exact hi | cases hi)
  obtain ⟨win, hwin⟩ : ∃ win : Nat, 1 + window % 500 = (win : Int) := ⟨(1 + window % 500).toNat, by omega⟩
  have hw5 : 1 ≤ win ∧ win ≤ 500 := by omega
  obtain ⟨M, hM⟩ : ∃ M : Nat, min (max mss 88) 1460 = (M : Int) := ⟨(min (max mss 88) 1460).toNat, by omega⟩
  have hM5 : 1 ≤ M ∧ M ≤ 1460 := by omega
  have HBS := Lib.hid hbs
  have HBL := Lib.hid hbl
  have HN := Lib.hid (And.intro hT (And.intro hh (And.intro hln (And.intro hhT hT4))))
  have HM := Lib.hid (And.intro hM hM5)
  have hLl0 : 0 ≤ min (ls0.length : Int) 60 := by omega
  have hiw : IntKind.u16.wrap (win : Int) = win := by rw [IntKind.wrap_u16]; omega
  have hiv : IntKind.i64.wrap (win : Int) = win := by rw [IntKind.wrap_i64]; omega
  have hLi : min (ls0.length : Int) 60 = ln := by omega
  have hSi : min (l0.length : Int) 400 = T := by omega
  have hlcI : (ln : Int) ≤ lc := by omega
  have hTcI : (T : Int) ≤ c0 := by omega
  have hMX := Lib.hid hlm
  clear hb hS hbs hD1 hD2 hL hDD hST hSl hLl hls hbl hT hh hln hM hM5 hhT
  go_enter Tryz.func5, Tryz.ntmps5
  go_upto_region 1 with fail
  refine wp_gn (fun Wa hWa => ?_)
  have hbl0 : Wa.heap[W.heap.size]? = some (.cells #[.slice L ls0.length lc] 57 (0, 0)) := by rw [hWa]; exact (MapKept.heap_alloc W _).1
  have ka : Keeps [] W Wa := by rw [hWa]; exact Keeps.alloc _ _ _
  have KA := Lib.hid ka
  have HL0 := Lib.hid hbl0
  have y0 := cell_of_block hbl0 0
  have z0 := free_of_block hbl0 0
  simp at y0
  clear hWa ka hbl0
  go_region
  go_upto_region 2 with fail
  refine wp_gn (fun Wb hWb => ?_)
  have kb : Keeps [W.heap.size] Wa Wb := by rw [hWb]; exact (Keeps.drew [W.heap.size] Wa).trans (Keeps.setCell _ ⟨W.heap.size, 0, none⟩ _)
  have hl1 : Wb.heap[W.heap.size]? = some (.cells #[.slice L ln lc] 57 (0, 0)) := by rw [hWb]; first | exact heap_setCell_self HL0.out 0 _ | exact heap_setCell_self (show Wa.drew.heap[W.heap.size]? = _ from HL0.out) 0 _
  have KB := Lib.hid (((KA.out.mono (T := [W.heap.size]) (by simp)).trans kb).fresh (T := []) (by intro j hj hlt; simp at hj; omega))
  have HL1 := Lib.hid hl1
  generalize hbl : W.heap.size = bl at *
  have HBL2 := Lib.hid hbl
  clear hWb kb hl1 y0 z0 hLi hSi KA HL0
  go_wp2_with fail
  refine (setup_ok Wb).mono ?_
  rintro e w1 ⟨rfl, k1⟩
  unfold setupV
  have K1 := Lib.hid k1
  clear k1
  go_upto_region 3 with fail
  go_upto_region 4 with fail
  refine wp_gn (fun W3 hW3 => ?_)
  have k3 : Keeps [] w1 W3 := by rw [hW3]; exact Keeps.alloc [] w1 _
  have hS3 : W3.heap[w1.heap.size]? = some (.cells #[.int .u16 1, .int .u16 2, .int .u32 iss, .int .u16 1460, .int .i64 7, .bool true, .int .i64 100, .int .u64 4, .int .i64 10] 27 (0, 0)) := by rw [hW3]; exact (MapKept.heap_alloc w1 _).1
  have hl3 := (k3.block bl (by have := K1.out.size; have := lt_of_block HL1.out; omega) (by simp)).trans ((K1.out.block bl (lt_of_block HL1.out) (by simp)).trans HL1.out)
  have K3 := Lib.hid ((KB.out.trans K1.out).trans k3)
  have hWs : W.heap.size ≤ w1.heap.size := by have := KB.out.size; have := K1.out.size; omega
  generalize hsb : w1.heap.size = sb at *
  have HS3 := Lib.hid hS3
  have HL3 := Lib.hid hl3
  have HWS := Lib.hid hWs
  have hS3c0 := cell_of_block hS3 0
  have hS3c1 := cell_of_block hS3 1
  have hS3c2 := cell_of_block hS3 2
  have hS3c3 := cell_of_block hS3 3
  have hS3c4 := cell_of_block hS3 4
  have hS3c5 := cell_of_block hS3 5
  have hS3c6 := cell_of_block hS3 6
  have hS3c7 := cell_of_block hS3 7
  have hS3c8 := cell_of_block hS3 8
  simp at hS3c0 hS3c1 hS3c2 hS3c3 hS3c4 hS3c5 hS3c6 hS3c7 hS3c8
  clear hW3 k3 hS3 hl3 hsb hWs HL1 KB
  go_wp2_with fail
  have HC := econnect_ok W3 iss u0
  unfold setupV at HC
  refine HC.mono ?_
  clear HC
  rintro e w4 ⟨x, g, A, c, rfl, hx, hg, hgb, ho, hE, k4⟩
  have HS4 := Lib.hid ((k4.block sb (lt_of_block HS3.out) (by simp)).trans HS3.out)
  have HL4 := Lib.hid ((k4.block bl (lt_of_block HL3.out) (by simp)).trans HL3.out)
  have K4 := Lib.hid (K3.out.trans k4)
  have HG4 := Lib.hid (And.intro hx (And.intro hg (And.intro hgb (And.intro ho hE))))
  have HZ3 := Lib.hid K3.out.size
  clear k4 HS3 HL3 K3 hS3c0 hS3c1 hS3c2 hS3c3 hS3c4 hS3c5 hS3c6 hS3c7 hS3c8 hx hg hgb ho hE
  go_upto_region 10 with fail
  refine wp_gn (fun W5 hW5 => ?_)
  obtain ⟨bm, hbm⟩ : ∃ bm, w4.heap.size = bm := ⟨_, rfl⟩
  obtain ⟨bg, hbg⟩ : ∃ bg, (w4.alloc (.cells #[.int .i64 0] 3)).heap.size = bg := ⟨_, rfl⟩
  have hne : bm < bg := by rw [← hbm, ← hbg]; simp
  have hm5 : W5.heap[bm]? = some (.cells #[.int .i64 0] 3 (0, 0)) := by rw [hW5, ← hbm]; exact ((Keeps.alloc [] _ _).block _ (by simp) (by simp)).trans (MapKept.heap_alloc w4 _).1
  have hg5 : W5.heap[bg]? = some (.cells #[.int .i64 0] 3 (0, 0)) := by rw [hW5, ← hbg]; exact (MapKept.heap_alloc (w4.alloc (.cells #[.int .i64 0] 3)) _).1
  have k5 : Keeps [] w4 W5 := by rw [hW5]; exact (Keeps.alloc [] w4 _).trans (Keeps.alloc [] _ _)
  have hWm : W.heap.size ≤ bm := by rw [← hbm]; exact K4.out.size
  have hE5 := HG4.out.2.2.2.2.keep0 k5
  have hWx : W.heap.size ≤ x := Nat.le_trans HZ3.out HG4.out.1
  have MM5 := Lib.hid (show MM W iss sb bm bl bg L ln lc W5 0 0 from ⟨(k5.block _ (lt_of_block HS4.out) (by simp)).trans HS4.out, hm5, (k5.block _ (lt_of_block HL4.out) (by simp)).trans HL4.out, hg5, K4.out.trans k5, HWS.out, hWm, by rw [HBL2.out]; exact Nat.le_refl _, by omega, by omega, Nat.le_refl _, by omega⟩)
  have HE5 := Lib.hid hE5
  have HG5 := Lib.hid (And.intro ((k5.block g (lt_of_block HG4.out.2.2.1) (by simp)).trans HG4.out.2.2.1) (HG4.out.2.2.2.1.keep0 k5))
  have HX := Lib.hid hWx
  have hh1 := HN.out.2.2.2.1
  have hq1 : (T : Int).tdiv 2 = h := by rw [Int.tdiv_eq_ediv_of_nonneg (by omega)]; omega
  have hq2 : (T : Int) / 2 = h := by omega
  have hq4 : IntKind.i64.wrap (h : Int) = h := by have := HN.out.2.2.2.2; rw [IntKind.wrap_i64]; omega
  have hhT : (h : Int) ≤ T := by omega
  have hhc : (h : Int) ≤ c0 := by omega
  have hbgm : bg = bm + 1 := by rw [← hbg, ← hbm]; simp
  subst hbgm
  simp only [hbm]
  clear hbm hbg hW5 k5 hm5 hg5 hE5 hh1 HG4 HS4 HL4 hWm hWx
  have hb1 : BytesV W5 (.slice A0 h c0) D1 := by
    have h1 := (HBS.out.keep0 MM5.out.kp).upto (k := h) (by omega)
    rw [show (D1 ++ D2).take h = D1 by rw [← HN.out.2.1]; exact List.take_left' rfl] at h1
    exact h1
  go_wp2_with fail
  refine (ewrite_opening HE5.out rfl rfl rfl ⟨_, _, _, rfl⟩ none 0 0 [] rfl (BytesV.nil _) A0 h c0 D1 hb1 (by have := HN.out; omega) 0).mono ?_
  rintro e w6 ⟨rfl, ⟨A6, c6, e6, b6⟩, k6⟩
  have hno := opE_no HE5.out
  have MM6 := Lib.hid (MM5.out.keep k6 (by
    intro b hb
    simp at hb
    subst hb
    exact ⟨HX.out, MM5.out.typs ⟨_, _, HE5.out⟩ (by decide) (by decide) (by decide)⟩))
  have hgx : g ∉ [x] := fun hm => by
    simp at hm
    exact (show Typ W5 g 39 from ⟨_, _, HG5.out.1⟩).ne ⟨_, _, HE5.out⟩ (by decide) hm
  have HG6 := Lib.hid (And.intro ((k6.block g (lt_of_block HG5.out.1) hgx).trans HG5.out.1) (HG5.out.2.keepN k6 (fun b hb => by simp at hb; subst hb; exact hno)))
  have HE6 := Lib.hid (show OpV D1 iss w6 x 0 4 4 from ⟨A6, c6, by
    have := e6
    rw [show 0 + h = D1.length by rw [HN.out.2.1, Nat.zero_add]] at this
    exact this, by
    have := b6
    rw [show 0 + h = D1.length by rw [HN.out.2.1, Nat.zero_add], List.nil_append] at this
    exact this⟩)
  clear e6 b6 k6 hno hgx hb1 HE5 HG5 MM5 hq1 hq2 hne
  go_wp2_with fail
  refine wp_loop_ghost_k (fun n a w' => ∃ v15 v23 v24 v25 v26 v27 v28 v29 v34 u', HeadV W iss irs D1 D2 M win sb bm bl L ls lc x n v15 v23 v24 v25 v26 v27 w' ∧ a = actP (.slice A0 T c0) (.int .u32 iss) (.int .u32 irs) (.int .u16 mss) (.pointer (some ⟨sb, 0, none⟩)) (.pointer (some ⟨x, 0, none⟩)) v15 (.int .u16 win) (.pointer (some ⟨bm, 0, none⟩)) (.pointer (some ⟨bm + 1, 0, none⟩)) (.func (Fn.func 21) #[] #[.pointer (some ⟨bm, 0, none⟩), .pointer (some ⟨bl, 0, none⟩), .pointer (some ⟨bm + 1, 0, none⟩)]) v23 v24 v25 v26 v27 v28 v29 v34 u') 3000 ?_ ?_
  · have hsy : gsK.Own w6 0 39 (.slice (some ⟨g, 0, none⟩) 1 1) [⟨1, 2, iss, 0, 2, 0, 0, A, 3, c, none, 0, 0⟩] := own_lower' (EK.own_block HG6.out.1 rfl (by simp [maxLen])) (Nat.zero_le _)
    exact ⟨_, _, _, _, _, _, _, _, _, _, ⟨0, 0, 0, 0, 0, [.syn], _, x, 0, W.heap.size, rfl, by omega, rfl, rfl, by omega, by rw [HN.out.2.2.1]; exact MM6.out, Nat.le_refl _, by omega, ⟨Nat.zero_le _, World.ownsRow_nil _ _ _ _⟩, hsy, RowV.one ⟨rfl, rfl, rfl, rfl, rfl, rfl, rfl, HG6.out.2, rfl, rfl, rfl⟩, by simp, HX.out, HX.out, Nat.le_refl _, MM6.out.kp.size, .inl ⟨false, 0, 4, 4, rfl, rfl, rfl, rfl, rfl, ⟨by omega, by omega, by omega, rfl, by omega, by omega⟩, rfl, HE6.out⟩⟩, actP_of _ rfl⟩
  · rintro n a wr ⟨v15, v23, v24, v25, v26, v27, v28, v29, v34, u, hrel, rfl⟩ J2 K2 hJ2 hK2
    obtain ⟨k, now, m, g, G, its, l, r, lo, hi, rfl, hk9, rfl, rfl, hnow, hmm, hkm, hmk, hgot, hown, hrow, hil, hzx, hzr, hzh, hhi, hph⟩ := hrel
    have HJ2 := Lib.hid hJ2
    clear MM6 HG6 HE6 hJ2
    unfold actP
    have hk30 : (k : Int) < 3000 := by omega
    have hk1 : IntKind.i64.wrap ((k : Int) + 1) = (k : Int) + 1 := by rw [IntKind.wrap_i64]; omega
    rcases hph.parts with ⟨e, op0, wrt, rfl, rfl, hcom, h240, hev⟩ | ⟨s, rfl, hG, hA, hev⟩ | ⟨hg10, S, hS, hS4⟩
    · obtain ⟨cd, st, hst, cs⟩ := hcom.done hev
      have CD := Lib.hid cd
      have CS := Lib.hid cs
      have hst4 : (st != 4) = true := by rcases hst with h | h <;> rw [h] <;> rfl
      have HCOM := Lib.hid hcom
      have H240 := Lib.hid h240
      have HMMk := Lib.hid (And.intro hkm (And.intro hmk (And.intro hnow (And.intro hil hcom.lt8))))
      have HALL := Lib.hid (show AllM W iss irs D1 D2 M win mss sb bm bl L ls.length lc lo hi x wr m g r e v24 G 0 (.slice none 0 0) [] [] [] 0 v15 l l its from ⟨hmm, hev, hgot, EK.Own.nil _ _ _ _, RowV.nil _, hown, hrow, (fun j hj => by cases hj), hzx, hzr, hzh⟩)
      have HHI := Lib.hid hhi
      clear hph hcom hev cd cs hkm hmk hnow hil hmm hgot hown hrow hzx hzr hzh hhi h240 hk9
      go_wp2_with fail
      refine (CD.out _ (by (repeat (first | with_reducible assumption | with_reducible exact Keeps.refl _ _ | with_reducible apply Keeps.alloc' | with_reducible apply Keeps.drew' | with_reducible apply Keeps.drewN' | (with_reducible apply Keeps.setCell'; rotate_left; · simp))))).mono ?_
      rintro e1 w1 ⟨rfl, k1⟩
      have K1 := Lib.hid k1
      clear k1
      go_wp2_with fail
      refine (CS.out _ (K1.out.trans (by (repeat (first | with_reducible assumption | with_reducible exact Keeps.refl _ _ | with_reducible apply Keeps.alloc' | with_reducible apply Keeps.drew' | with_reducible apply Keeps.drewN' | (with_reducible apply Keeps.setCell'; rotate_left; · simp)))))).mono ?_
      rintro e2 w2 ⟨rfl, rfl⟩
      have HA1 := Lib.hid (HALL.out.keep0 K1.out)
      obtain ⟨A15, c15, hu15, hat15, hlc15, hcm15, _⟩ := EK.Own.at_ HA1.out.oo
      subst hu15
      have HH1 := Lib.hid (Nat.le_trans HHI.out K1.out.size)
      clear K1 HALL CD CS hat15 hlc15 hcm15 HHI
      go_upto_block 2 with fail
      clear hst hst4
      refine wp_cut (fun a' w' => ∃ v24 v25 v28 v29 u', PeerE W iss irs D1 D2 M win mss sb bm bl L ls lc lo hi x r e w1.heap.size (.slice A15 l.length c15) l its op0 G m g v24 v25 v28 w' ∧ a' = actP (.slice A0 T c0) (.int .u32 iss) (.int .u32 irs) (.int .u16 mss) (.pointer (some ⟨sb, 0, none⟩)) (.pointer (some ⟨x, 0, none⟩)) (.slice A15 l.length c15) (.int .u16 win) (.pointer (some ⟨bm, 0, none⟩)) (.pointer (some ⟨bm + 1, 0, none⟩)) (.func (Fn.func 21) #[] #[.pointer (some ⟨bm, 0, none⟩), .pointer (some ⟨bl, 0, none⟩), .pointer (some ⟨bm + 1, 0, none⟩)]) (.int .u64 now) v24 v25 (.bool wrt) (.int .i64 k) v28 v29 v34 u') ?_ ?_
      · rintro a' wd ⟨v24, v25, v28, v29, u, ⟨op, G', m', g', bk, lb, hp, rfl, hA2, hbl2, hm2, hsz2, h242⟩, rfl⟩
        unfold actP
        obtain ⟨A28, c28, hu28, _⟩ := EK.Own.at_ hA2.bo
        subst hu28
        have HA2 := Lib.hid hA2
        have HP := Lib.hid (And.intro hp (And.intro hbl2 (And.intro hm2 (And.intro hsz2 h242))))
        have HT4 := Lib.hid (show (D1 ++ D2).length ≤ 400 by have := HN.out; omega)
        have hcp := HCOM.out.peer HM.out.2.1 HT4.out hp
        have HCP := Lib.hid hcp
        clear hA2 hp hbl2 hm2 hsz2 h242 hcp HA1
        go_upto_block 4 with fail
        refine wp_cut (fun a' w' => ∃ v15 v34 u', EndE W iss irs D1 D2 M win mss sb bm bl L ls lc lo hi x e m' g' now wd.heap.size w1.heap.size (.slice A28 lb.length c28) lb bk v24 G' v15 w' ∧ a' = actP (.slice A0 T c0) (.int .u32 iss) (.int .u32 irs) (.int .u16 mss) (.pointer (some ⟨sb, 0, none⟩)) (.pointer (some ⟨x, 0, none⟩)) v15 (.int .u16 win) (.pointer (some ⟨bm, 0, none⟩)) (.pointer (some ⟨bm + 1, 0, none⟩)) (.func (Fn.func 21) #[] #[.pointer (some ⟨bm, 0, none⟩), .pointer (some ⟨bl, 0, none⟩), .pointer (some ⟨bm + 1, 0, none⟩)]) (.int .u64 now) v24 (.bool op) (.bool wrt) (.int .i64 k) (.slice A28 lb.length c28) v29 v34 u') ?_ ?_
        · rintro a' we ⟨v15, v34, u, ⟨e', m2, g2, r', its', l', hq, hA3, hm3, hop3, hpl3, hsz3⟩, rfl⟩
          unfold actP
          have hout := HCOM.out.out HM.out.2.1 HT4.out (by rw [HN.out.2.2.1]; exact hl60) HMMk.out.1 HP.out.1 hq
          have HQ := Lib.hid (show m2 ≤ 2000 * (k + 1) by have := HMMk.out; have := HP.out; omega)
          have HA3 := Lib.hid hA3
          have HS3 := Lib.hid (And.intro hop3 (And.intro hpl3 (And.intro hsz3 HH1.out)))
          have HWS3 := Lib.hid (show W.heap.size ≤ wd.heap.size from HA2.out.mm.kp.size)
          have hnow4 : now ≤ 4398046511104 := by have := HMMk.out; omega
          have HQ801 := Lib.hid (show its'.length ≤ 801 by have := HCP.out.2 now; rw [hq] at this; exact this)
          clear hq hm3 hA3 hop3 hpl3 hsz3 HCOM HA2
          rcases hout with ⟨cnt, wait, al, rfl, rfl, rfl, hsy, rfl, hal1, hal2, hc10, hw4, hg10, hinv, hk1m⟩ | ⟨rfl, rfl, rfl, rfl, hsy, rfl, hk1m, hk61⟩ | ⟨s', out', rfl, rfl, _, rfl, rfl, halv, hsT, hk1m, hGT, hb1, hb2, hb3, hb4⟩
          · have h15 := (HS3.out.1 ⟨_, _, _, rfl⟩).1
            subst h15
            have h24 := HP.out.2.2.2.2 hsy
            subst h24
            have hev := HA3.out.ev
            obtain ⟨hrx, hopv⟩ := hev
            have HOP := Lib.hid hopv
            have hdal : decide ((al : Int) < (now : Int)) = false := decide_eq_false (by omega)
            have hdal' : decide (al < now) = false := decide_eq_false (by omega)
            have HAL := Lib.hid (And.intro hal2 (And.intro hc10 (And.intro hw4 (And.intro hg10 (And.intro hinv (And.intro hk1m hrx))))))
            clear hopv hal1 hal2 hc10 hw4 hg10 hinv hk1m hrx hsy
            go_wp2_with fail
            refine (op_state HOP.out).mono ?_
            rintro e7 w7 ⟨rfl, rfl⟩
            go_wp2_with fail
            refine (op_alarm HOP.out).mono ?_
            rintro e8 w8 ⟨rfl, rfl⟩
            by_cases hc : cnt = 10
            · have HC := Lib.hid hc
              clear hc
              go_wp2_with fail
              refine (op_fail HOP.out HC.out).mono ?_
              rintro e9 w9 ⟨rfl, ⟨S, hS, hS4⟩, k9⟩
              have HS := Lib.hid (And.intro hS (And.intro hS4 k9))
              clear hS hS4 k9
              go_wp2_with (at_builtin; refine wpList_append_E gsK rfl (.tmp 348) (.tmp 349) 23 39 0 rfl Tryz.underlying23 Tryz.infoSeg (by rfl) (by decide) (.slice none 0 0) [] rfl (EK.Own.nil _ _ _ _) none 0 [] rfl (.inl rfl) (fun _ => rfl) (by simp) (Nat.zero_le _) ?_; intro v10 w10 o10 g10 a10)
              obtain ⟨f1, f2, f3, f4⟩ := HA3.out.failed (w7 := w9) HWS3.out (HS.out.2.2.mono (by simp)) g10
              have HF := Lib.hid (And.intro f1 (And.intro f2 (And.intro (f3 S HS.out.1) (And.intro f4 o10))))
              clear f1 f2 f3 f4 g10 a10 o10
              go_wp2_with fail
              refine Handed.intro (3000 - (k + 1)) (by omega) (HJ2.out _ _ _ ?_)
              have hF := HF.out
              have hAL := HAL.out
              exact ⟨_, _, _, _, _, _, _, _, _, _, ⟨k + 1, al, m2, g2, 0, [], _, x, 0, hi, rfl, by have := HMMk.out; have := HAL.out.2.2.2.2.2.1; omega, rfl, rfl, by have := HMMk.out; omega, hF.1, hAL.2.2.2.2.2.1, HQ.out, hF.2.1, hF.2.2.2.2, RowV.nil _, by simp, HX.out, HX.out, HA3.out.zh, by have := HS3.out.2.2; have := HP.out.2.2.2.1; have := hF.2.2.2.1; omega, .inr (.inr (.inr ⟨hAL.2.2.2.1 HC.out, S, hF.2.2.1, HS.out.2.1⟩))⟩, actP_of _ rfl⟩
            · have HC := Lib.hid hc
              clear hc
              go_wp2_with fail
              refine (op_tick (E := D2) (irs := irs) HOP.out (by have := HC.out; have := HAL.out; omega) HAL.out.2.2.1 (by have := HAL.out.1; have := HMMk.out; omega)).mono ?_
              rintro e9 w9 ⟨b9, l9, rfl, hl9, hat9, hrow9, hop9, k9⟩
              have HR := Lib.hid (And.intro hl9 (And.intro hat9 (And.intro hrow9 (And.intro hop9 k9))))
              clear hl9 hat9 hrow9 hop9 k9
              go_wp2_with (at_builtin; refine wpList_append_E gsK rfl (.tmp 348) (.tmp 349) 23 39 wd.heap.size rfl Tryz.underlying23 Tryz.infoSeg (by rfl) (by decide) (.slice none 0 0) [] rfl (EK.Own.nil _ _ _ _) (some ⟨b9, 0, none⟩) 1 l9 (by rw [HR.out.1]; rfl) HR.out.2.1 (fun h => by cases h) (by rw [HR.out.1]; simp) (by have := HR.out.2.2.2.2.size; have := HS3.out.2.2.1; omega) ?_; intro v10 w10 o10 g10 a10)
              have hszw : W.heap.size ≤ wd.heap.size := HWS3.out
              have hA9 := (HA3.out.took (w' := w9) (hi' := hi) (lo' := lo) (r' := x) (e' := .op (cnt + 1) (wait * 2) (al + wait * 2)) (.inl rfl) ⟨rfl, HR.out.2.2.2.1⟩ (.inl HAL.out.2.2.2.2.2.2.symm) (HR.out.2.2.2.2.mono (by simp))).re (lbr' := []) (bkr' := []) (lr' := []) (itr' := []) (RowV.nil _) (RowV.nil _)
              have hA0 := hA9.rows (bb' := w1.heap.size) (ob' := wd.heap.size) (v15' := .slice none 0 0) (l' := []) hA9.bo (RowV.nil _) (EK.Own.nil _ _ _ _) (RowV.nil _) (fun j hj h => by cases h)
              have hF := (hA0.out hszw (.inl rfl) o10 g10 a10 (HR.out.2.2.1 _)).head
              have HF := Lib.hid hF
              have HG := Lib.hid (Nat.le_trans HR.out.2.2.2.2.size g10.size)
              clear hA9 hA0 hF o10 g10 a10
              go_wp2_with fail
              refine Handed.intro (3000 - (k + 1)) (by omega) (HJ2.out _ _ _ ?_)
              have hF := HF.out
              have hAL := HAL.out
              exact ⟨_, _, _, _, _, _, _, _, _, _, ⟨k + 1, al, m2, g2, 0, [.syn], _, x, lo, hi, rfl, by have := HMMk.out; omega, rfl, rfl, by have := HMMk.out; omega, hF.1, hAL.2.2.2.2.2.1, HQ.out, hF.2.1, hF.2.2.1, hF.2.2.2.1, by simp, HX.out, HX.out, HA3.out.zh, by have := HS3.out.2.2; have := HP.out.2.2.2.1; have := HG.out; omega, .inl ⟨op, cnt + 1, wait * 2, al + wait * 2, rfl, rfl, rfl, rfl, rfl, hAL.2.2.2.2.1 HC.out, hF.2.2.2.2.2.2.2⟩⟩, actP_of _ rfl⟩
          · have h24 := HP.out.2.2.2.2 hsy
            subst h24
            obtain ⟨A15', c15', hu15', _⟩ := EK.Own.at_ HA3.out.oo
            subst hu15'
            have hev := HA3.out.ev
            have HEV := Lib.hid hev
            have hh1 := HN.out.2.2.2.1
            have hq1 : (T : Int).tdiv 2 = h := by rw [Int.tdiv_eq_ediv_of_nonneg (by omega)]; omega
            have hq2 : (T : Int) / 2 = h := by omega
            have z1 : (h : Int) ≤ T := by omega
            have z2 : (T : Int) ≤ c0 := by omega
            have z3 : (h : Int) ≤ c0 := by omega
            obtain ⟨X, hX⟩ : ∃ X, (if c0 = h then A0 else Option.map (fun x : Addr => x.add h) A0) = X := ⟨_, rfl⟩
            have hb2 : BytesV we (.slice X (T - h) (c0 - h)) D2 := by
              have hb := (HBS.out.keep0 HA3.out.mm.kp).fromXe (k := h) (e := T) (by omega) (Nat.le_refl _) hX
              rw [show ((D1 ++ D2).drop h).take (T - h) = D2 by rw [← HN.out.2.1, List.drop_left' rfl]; exact List.take_of_length_le (by have := HN.out.1; rw [List.length_append] at this; have := HN.out.2.1; omega)] at hb
              exact hb
            have HB2 := Lib.hid hb2
            have HAL := Lib.hid (And.intro hsy (And.intro hk1m hk61))
            clear hev hb2 hh1 hsy hk1m hk61
            go_wp2_with fail
            refine (half_state HEV.out).mono ?_
            rintro e7 w7 ⟨rfl, rfl⟩
            go_wp2_with fail
            refine (half_write HEV.out HT4.out HM.out.2.1 HM.out.2.2 hw5.2 X (T - h) (c0 - h) HB2.out now hnow4).mono ?_
            rintro e9 w9 ⟨v9, l9, rfl, own9, hrow9, on9, k9⟩
            obtain ⟨A9, c9, rfl, at9, _, _, _⟩ := EK.Own.at_ own9
            have hAn : A9 = none → l9 = [] := fun h => by
              rcases at9 with h0 | ⟨b, o, h1, _⟩
              · exact h0
              · rw [h1] at h; cases h
            have HR9 := Lib.hid (hrow9 _ (nB_lt HA3.out.got HA3.out.bo HA3.out.oo))
            have hA9 := HA3.out.took (w' := w9) (hi' := w9.heap.size) (lo' := we.heap.size) (r' := r') (e' := .on { ((s0N D1.length win now).wrote D1.length D2.length now) with N := max (s0N D1.length win now).N (min (D1 ++ D2).length ((s0N D1.length win now).A + win)) }) (.inr ⟨by have := HS3.out.2.2; have := HP.out.2.2.2.1; have := k9.size; omega, rfl⟩) on9 (.inl rfl) k9
            have HA9 := Lib.hid hA9
            have HAT := Lib.hid at9
            have hlen : l'.length + l9.length ≤ 100000 := by
              have h1 := HA3.out.orr.1
              have h2 := HR9.out.1
              have h3 := cutsK_len (e := min D1.length win) HM.out.2.1 (k := D1.length) (f := 0)
              have h4 := cutsK_len (e := min (D1 ++ D2).length ((s0N D1.length win now).A + win)) HM.out.2.1 (k := (D1 ++ D2).length) (f := (s0N D1.length win now).N)
              have h5 := HT4.out
              have h6 : D1.length ≤ (D1 ++ D2).length := by rw [List.length_append]; omega
              rw [List.length_cons, List.length_map] at h1
              rw [List.length_map] at h2
              omega
            have hlen1 : 1 ≤ l'.length ∧ l'.length + l9.length ≤ 801 := by
              have h1 := HA3.out.orr.1
              have h2 := HR9.out.1
              have h3 := cutsK_len (e := min D1.length win) HM.out.2.1 (k := D1.length) (f := 0)
              have h4 := cutsK_len (e := min (D1 ++ D2).length ((s0N D1.length win now).A + win)) HM.out.2.1 (k := (D1 ++ D2).length) (f := (s0N D1.length win now).N)
              have h5 := HT4.out
              have h6 : D1.length ≤ (D1 ++ D2).length := by rw [List.length_append]; omega
              rw [List.length_cons, List.length_map] at h1
              rw [List.length_map] at h2
              omega
            have hszw : wd.heap.size ≤ w9.heap.size := by have := HS3.out.2.2; have := k9.size; omega
            have HL1 := Lib.hid hlen1
            have HK9 := Lib.hid k9.size
            clear own9 hrow9 on9 k9 at9 hA9 hlen1 hq1 hq2 z1 z2 z3 hX
            go_wp2_with (at_builtin; refine wpList_append_E gsK rfl (.tmp 322) (.tmp 323) 23 39 wd.heap.size rfl Tryz.underlying23 Tryz.infoSeg (by rfl) (by decide) (.slice A15' l'.length c15') l' rfl HA9.out.oo A9 c9 l9 rfl HAT.out hAn hlen hszw ?_; intro v10 w10 o10 g10 a10)
            obtain ⟨A10, c10, hv10, _, _, _, _⟩ := EK.Own.at_ o10
            obtain ⟨n10, hn10⟩ : ∃ n, (l' ++ l9).length = n := ⟨_, rfl⟩
            rw [hn10] at hv10
            subst hv10
            have hF := HA9.out.out HWS3.out (.inr ⟨⟨_, rfl⟩, (fun j hj hh => by have := own_lt' HA3.out.oo hj; omega), (fun b hb => by cases hb), HS3.out.2.1, (fun it hm => by obtain ⟨o, _, rfl⟩ := List.mem_map.1 hm; exact fun h => by cases h)⟩) o10 g10 a10 HR9.out
            have HF := Lib.hid hF
            have HG := Lib.hid g10.size
            have hl0 : ((n10 : Int) == 0) = false := beq_eq_false_iff_ne.mpr (by have := HL1.out; rw [List.length_append] at hn10; omega)
            clear hF o10 g10 a10 hn10
            go_wp2_with fail
            refine (on_alarm HF.out.ev).mono ?_
            rintro e11 w11 ⟨⟨al, ab, rfl⟩, rfl⟩
            go_wp2_with fail
            refine Handed.intro (3000 - (k + 1)) (by omega) (HJ2.out _ _ _ ?_)
            have hF := HF.out.head
            have hAL := HAL.out
            have hD2 : D2.length = (D1 ++ D2).length - D1.length := by rw [List.length_append]; omega
            have hph : PhV W iss irs D1 D2 M win ls we.heap.size w9.heap.size x r' (k + 1) now m2 g2 0 ((.sk .ack :: (cutsK D1.length M 0 (min D1.length win)).map It.sk) ++ (cutsK (D1 ++ D2).length M (s0N D1.length win now).N (min (D1 ++ D2).length ((s0N D1.length win now).A + win))).map It.sk) (.slice none 0 0) (.bool true) (.bool true) w10 := by
              by_cases hT0 : 0 < (D1 ++ D2).length
              · refine .inr (.inl ⟨_, .ack :: (cutsK D1.length M 0 (min D1.length win) ++ cutsK (D1 ++ D2).length M (s0N D1.length win now).N (min (D1 ++ D2).length ((s0N D1.length win now).A + win))), rfl, rfl, by simp, ?_, hF.2.2.2.2.2.2.2⟩)
                rw [hD2]
                exact BInv.start HM.out.2.1 hw5.1 (by rw [List.length_append]; omega) hT0 HT4.out hAL.2.2
              · refine .inr (.inr (.inl ⟨_, rfl, by omega, ?_, hF.2.2.2.2.2.2.2⟩))
                have : (s0N D1.length win now).A = 0 := by unfold s0N SE.wrote; split <;> rfl
                have h2 : ((s0N D1.length win now).wrote D1.length D2.length now).A = 0 := by rw [← this]; unfold SE.wrote; split <;> rfl
                show ((s0N D1.length win now).wrote D1.length D2.length now).A = _
                omega
            exact ⟨_, _, _, _, _, _, _, _, _, _, ⟨k + 1, now, m2, g2, 0, _, _, r', we.heap.size, w9.heap.size, rfl, by have := HMMk.out; omega, rfl, rfl, by have := HMMk.out; omega, hF.1, hAL.2.1, HQ.out, hF.2.1, hF.2.2.1, hF.2.2.2.1, (by have := HL1.out; have h1 := hF.2.2.2.1.1; have h2 : (l' ++ l9).length = l'.length + l9.length := List.length_append; omega), hF.2.2.2.2.1, hF.2.2.2.2.2.1, hF.2.2.2.2.2.2.1, HG.out, hph⟩, actP_of _ rfl⟩
          · obtain ⟨A15', c15', hu15', _⟩ := EK.Own.at_ HA3.out.oo
            obtain ⟨n15, hn15⟩ : ∃ n, l'.length = n := ⟨_, rfl⟩
            rw [hn15] at hu15'
            subst hu15'
            have hlo : n15 = out'.length := by have h1 := HA3.out.orr.1; rw [List.length_map] at h1; omega
            have hev := HA3.out.ev
            have HEV := Lib.hid hev
            have HAL := Lib.hid (And.intro halv (And.intro hsT (And.intro hk1m (And.intro hGT (And.intro hb1 (And.intro hb2 (And.intro hb3 (And.intro hb4 (And.intro hn15 hlo)))))))))
            clear hev halv hsT hk1m hGT hb1 hb2 hb3 hb4 hn15 hlo
            by_cases hA : s'.A < (D1 ++ D2).length
            · by_cases ho : out' = []
              · have hn0 : n15 = 0 := by have := HAL.out.2.2.2.2.2.2.2.2.2; rw [ho] at this; simpa using this
                subst hn0
                have hl0 : l' = [] := List.eq_nil_of_length_eq_zero HAL.out.2.2.2.2.2.2.2.2.1
                subst hl0
                have hal := HAL.out.1
                have hpw := pow_small hal.c
                have hww := hal.w
                have hal1 := hal.a
                have hal2 := hal.b
                have hda : decide ((s'.alarm : Int) < (now : Int)) = false := decide_eq_false (by omega)
                have hda' : decide (s'.alarm < now) = false := decide_eq_false (by omega)
                have HO := Lib.hid (And.intro hA (And.intro ho (And.intro hpw (And.intro hww (And.intro hal1 hal2)))))
                clear hA ho hpw hww hal hal1 hal2
                go_wp2_with fail
                refine (alarm_on HEV.out HO.out.1).mono ?_
                rintro e7 w7 ⟨rfl, rfl⟩
                by_cases hc : s'.cnt = 10
                · have HC := Lib.hid hc
                  clear hc
                  go_wp2_with fail
                  refine (tick_fail HEV.out HM.out.2.1 HM.out.2.2 HO.out.1 HC.out (by have := HO.out; have := HMMk.out; omega)).mono ?_
                  rintro e9 w9 ⟨rfl, ⟨S, hS, hS4⟩, k9⟩
                  have HS := Lib.hid (And.intro hS (And.intro hS4 k9))
                  have ho9 : gsK.Own w9 0 39 (.slice A15' 0 c15') [] := own_lower' (own_keepsS HA3.out.oo k9 (fun j hj hm => by
                    have ht := Typ.own (show we.ownsRow _ _ _ _ _ _ from HA3.out.oo) hj
                    have hf := (HA3.out.far (.inr ht)).1
                    simp only [List.mem_cons, List.not_mem_nil, or_false] at hm
                    omega)) (Nat.zero_le _)
                  have HO9 := Lib.hid ho9
                  clear hS hS4 k9 ho9
                  go_wp2_with (at_builtin; refine wpList_append_E gsK rfl (.tmp 348) (.tmp 349) 23 39 0 rfl Tryz.underlying23 Tryz.infoSeg (by rfl) (by decide) (.slice A15' 0 c15') [] rfl HO9.out none 0 [] rfl (.inl rfl) (fun _ => rfl) (by simp) (Nat.zero_le _) ?_; intro v10 w10 o10 g10 a10)
                  obtain ⟨f1, f2, f3, f4⟩ := HA3.out.failed (w7 := w9) HWS3.out HS.out.2.2 g10
                  have HF := Lib.hid (And.intro f1 (And.intro f2 (And.intro (f3 S HS.out.1) (And.intro f4 o10))))
                  clear f1 f2 f3 f4 g10 a10 o10
                  go_wp2_with fail
                  refine Handed.intro (3000 - (k + 1)) (by omega) (HJ2.out _ _ _ ?_)
                  have hF := HF.out
                  have hAL := HAL.out
                  exact ⟨_, _, _, _, _, _, _, _, _, _, ⟨k + 1, s'.alarm, m2, g2, G', [], _, x, 0, hi, rfl, by have := HMMk.out; omega, rfl, rfl, by have := HMMk.out; have := HO.out; omega, hF.1, hAL.2.2.1, HQ.out, hF.2.1, hF.2.2.2.2, RowV.nil _, by simp, HX.out, HX.out, HA3.out.zh, by have := HS3.out.2.2; have := HP.out.2.2.2.1; have := hF.2.2.2.1; omega, .inr (.inr (.inr ⟨hAL.2.2.2.2.1 HO.out.2.1 HO.out.1 HC.out, S, hF.2.2.1, HS.out.2.1⟩))⟩, actP_of _ rfl⟩
                · have HC := Lib.hid hc
                  clear hc
                  go_wp2_with fail
                  refine (tick_on HEV.out HM.out.2.1 HM.out.2.2 HO.out.1 (by have := HC.out; have := HAL.out.1.c; omega) (by have := HO.out; have := HMMk.out; omega) (by have := HO.out; omega)).mono ?_
                  rintro e9 w9 ⟨v9, l9, rfl, ⟨b9, rfl, hat9⟩, hl9, hrow9, on9, k9⟩
                  have HR := Lib.hid (And.intro hl9 (And.intro hat9 (And.intro (hrow9 _ (nB_lt HA3.out.got HA3.out.bo HA3.out.oo)) (And.intro on9 k9))))
                  have hA9 := (HA3.out.took (w' := w9) (hi' := hi) (lo' := lo) (r' := r') (e' := .on (s'.ticked (D1 ++ D2).length win M)) (.inl rfl) on9 (.inl rfl) k9)
                  have HA9 := Lib.hid hA9
                  clear hl9 hat9 hrow9 on9 k9 hA9
                  go_wp2_with (at_builtin; refine wpList_append_E gsK rfl (.tmp 348) (.tmp 349) 23 39 wd.heap.size rfl Tryz.underlying23 Tryz.infoSeg (by rfl) (by decide) (.slice A15' 0 c15') [] rfl HA9.out.oo (some ⟨b9, 0, none⟩) 1 l9 (by rw [HR.out.1]; rfl) HR.out.2.1 (fun h => by cases h) (by rw [HR.out.1]; simp) (by have := HR.out.2.2.2.2.size; have := HS3.out.2.2.1; omega) ?_; intro v10 w10 o10 g10 a10)
                  have hF := (HA9.out.out HWS3.out (.inr ⟨⟨_, rfl⟩, (fun j hj hh => by
                    have h1 := (World.ownsRow.lt (show w9.ownsRow _ _ _ _ _ _ from HA9.out.oo) j hj).1
                    have := HS3.out.2.2
                    have := HP.out.2.2.2.1
                    omega), (fun b hb => by cases hb), HS3.out.2.1, (fun it hm => by simp at hm; subst hm; exact fun h => by cases h)⟩) o10 g10 a10 HR.out.2.2.1).head
                  have HF := Lib.hid hF
                  have HG := Lib.hid (Nat.le_trans HR.out.2.2.2.2.size g10.size)
                  clear hF o10 g10 a10
                  go_wp2_with fail
                  refine Handed.intro (3000 - (k + 1)) (by omega) (HJ2.out _ _ _ ?_)
                  have hF := HF.out
                  have hAL := HAL.out
                  have ho := HO.out.2.1
                  subst ho
                  exact ⟨_, _, _, _, _, _, _, _, _, _, ⟨k + 1, s'.alarm, m2, g2, G', _, _, r', lo, hi, rfl, by have := HMMk.out; omega, rfl, rfl, by have := HMMk.out; have := HO.out; omega, hF.1, hAL.2.2.1, HQ.out, hF.2.1, hF.2.2.1, hF.2.2.2.1, by simp, hF.2.2.2.2.1, hF.2.2.2.2.2.1, hF.2.2.2.2.2.2.1, by have := HS3.out.2.2; have := HP.out.2.2.2.1; have := HG.out; omega, .inr (.inl ⟨_, [.pc s'.A (s'.tickN (D1 ++ D2).length win M)], rfl, rfl, rfl, hAL.2.2.2.2.2.1 rfl HO.out.1 HC.out, hF.2.2.2.2.2.2.2⟩)⟩, actP_of _ rfl⟩
              · have hl0 : ((n15 : Int) == 0) = false := beq_eq_false_iff_ne.mpr (by have := HAL.out.2.2.2.2.2.2.2.2.2; have : out'.length ≠ 0 := fun h => ho (List.eq_nil_of_length_eq_zero h); omega)
                have HO := Lib.hid (And.intro hA ho)
                clear hA ho
                go_wp2_with fail
                refine (on_alarm HEV.out).mono ?_
                rintro e7 w7 ⟨⟨al, ab, rfl⟩, rfl⟩
                go_wp2_with fail
                refine Handed.intro (3000 - (k + 1)) (by omega) (HJ2.out _ _ _ ?_)
                have hF := HA3.out.head
                have hAL := HAL.out
                have hlq : out'.length ≤ 801 := by have := HQ801.out; simpa using this
                exact ⟨_, _, _, _, _, _, _, _, _, _, ⟨k + 1, now, m2, g2, G', _, _, r', lo, hi, rfl, by have := HMMk.out; omega, rfl, rfl, by have := HMMk.out; omega, hF.1, hAL.2.2.1, HQ.out, hF.2.1, hF.2.2.1, hF.2.2.2.1, by simpa using hlq, hF.2.2.2.2.1, hF.2.2.2.2.2.1, hF.2.2.2.2.2.2.1, by have := HS3.out.2.2; have := HP.out.2.2.2.1; omega, .inr (.inl ⟨_, out', rfl, rfl, rfl, hAL.2.2.2.2.2.2.2.1 HO.out.2 HO.out.1, hF.2.2.2.2.2.2.2⟩)⟩, actP_of _ rfl⟩
            · have hAT : s'.A = (D1 ++ D2).length := by have := HAL.out.2.1; omega
              have HO := Lib.hid hAT
              obtain ⟨zb, hzb⟩ : ∃ b, ((n15 : Int) == 0) = b := ⟨_, rfl⟩
              clear hA hAT
              go_wp2_with fail
              refine (alarm_none HEV.out HO.out).mono ?_
              rintro e7 w7 ⟨rfl, rfl⟩
              cases zb
              · go_wp2_with fail
                refine Handed.intro (3000 - (k + 1)) (by omega) (HJ2.out _ _ _ ?_)
                have hF := HA3.out.head
                have hAL := HAL.out
                have hlq : out'.length ≤ 801 := by have := HQ801.out; simpa using this
                exact ⟨_, _, _, _, _, _, _, _, _, _, ⟨k + 1, now, m2, g2, G', _, _, r', lo, hi, rfl, by have := HMMk.out; omega, rfl, rfl, by have := HMMk.out; omega, hF.1, hAL.2.2.1, HQ.out, hF.2.1, hF.2.2.1, hF.2.2.2.1, by simpa using hlq, hF.2.2.2.2.1, hF.2.2.2.2.2.1, hF.2.2.2.2.2.2.1, by have := HS3.out.2.2; have := HP.out.2.2.2.1; omega, .inr (.inr (.inl ⟨_, rfl, hAL.2.2.2.2.2.2.1 HO.out, HO.out, hF.2.2.2.2.2.2.2⟩))⟩, actP_of _ rfl⟩
              · go_wp2_with fail
                refine Handed.intro (3000 - (k + 1)) (by omega) (HJ2.out _ _ _ ?_)
                have hF := HA3.out.head
                have hAL := HAL.out
                have hlq : out'.length ≤ 801 := by have := HQ801.out; simpa using this
                exact ⟨_, _, _, _, _, _, _, _, _, _, ⟨k + 1, now, m2, g2, G', _, _, r', lo, hi, rfl, by have := HMMk.out; omega, rfl, rfl, by have := HMMk.out; omega, hF.1, hAL.2.2.1, HQ.out, hF.2.1, hF.2.2.1, hF.2.2.2.1, by simpa using hlq, hF.2.2.2.2.1, hF.2.2.2.2.2.1, hF.2.2.2.2.2.2.1, by have := HS3.out.2.2; have := HP.out.2.2.2.1; omega, .inr (.inr (.inl ⟨_, rfl, hAL.2.2.2.2.2.2.1 HO.out, HO.out, hF.2.2.2.2.2.2.2⟩))⟩, actP_of _ rfl⟩
        · intro J K' hJ hK
          have hmm := HMMk.out
          have hpp := HP.out
          have hA := HA2.out.rows (ob' := 0) (v15' := .slice none 0 0) (l' := []) (lr' := []) (itr' := []) HA2.out.bo HA2.out.br (EK.Own.nil _ _ _ _) (RowV.nil _) (fun j hj h => by cases h)
          have hw := fun (u' : Nat → Value) (Q : Exit → Act → World → Prop) (v0 v1 v2 v4 v13 v17 v18 v19 v25 v26 v27 v29 : Value) (hJ' : _) => end_walk (w1 := wd) (sz := wd.heap.size) u0 u1 q0 q1 HM.out.1 HM.out.2 hw5 (by have := HN.out; omega) HBL.out (by rw [HN.out.2.2.1]; exact hl60) (HCP.out.2 now) (by omega) (by omega) (by omega) rfl (Nat.le_trans HH1.out hpp.2.2.2.1) HCP.out.1 hA v0 v1 v2 v4 v13 v17 v18 v19 v25 v26 v27 v29 u' J K' Q hJ' hK
          unfold blkS at hw
          simp only [Tryz.f5, findB, Option.getD_some, Option.getD_none, Option.or_some, Option.none_or, Option.or_none, if_true, if_false, reduceIte, Nat.reduceEqDiff] at hw
          rw [actP_of _ rfl]
          exact hw _ _ _ _ _ _ _ _ _ _ _ _ _ _ (fun v15 v34 u' w' hE => hJ _ _ ⟨v15, v34, u', hE, rfl⟩)
      · intro J K' hJ hK
        have hmm := HMMk.out
        have hw := fun (u' : Nat → Value) (Q : Exit → Act → World → Prop) => peer_walk (A0 := A0) (T := T) (c0 := c0) (v24 := v24) (w1 := w1) (sz := w1.heap.size) u0 u1 q0 q1 hw5 HBS.out HN.out.1 hT4 HBL.out (by rw [HN.out.2.2.1]; exact hl60) hmm.2.2.2.1 (by omega) rfl HH1.out H240.out HA1.out HCOM.out.ok (.pointer (some ⟨bm, 0, none⟩)) (.pointer (some ⟨bm + 1, 0, none⟩)) (.int .u64 now) (.bool wrt) (.int .i64 k) v34 u' J K' Q (fun v24 v25 v28 v29 u' w' hE => hJ _ _ ⟨v24, v25, v28, v29, u', hE, rfl⟩) hK
        unfold blkS at hw
        simp only [Tryz.f5, findB, Option.getD_some, Option.getD_none, Option.or_some, Option.none_or, Option.or_none, if_true, if_false, reduceIte, Nat.reduceEqDiff] at hw
        rw [actP_of _ rfl]
        exact hw _ _
    · have HD := Lib.hid (And.intro hG hA)
      have HEV := Lib.hid hev
      have HMM := Lib.hid hmm
      obtain ⟨A24, c24, h24⟩ := own_slice hgot.2
      subst h24
      have hGT : G = T := by have := HN.out.1; omega
      subst hGT
      have HG := Lib.hid hgot
      have hdn : decide (s.A = (D1 ++ D2).length) = true := decide_eq_true hA
      obtain ⟨bx, hbx⟩ : ∃ z : ByteArray, (⟨(D1 ++ D2).toArray⟩ : ByteArray) = z := ⟨_, rfl⟩
      have HBX := Lib.hid hbx
      have hcv : ∀ W', Keeps [] wr W' → (convert 37 9 (.slice A24 G c24)).run Tryz.prog W' = .ok (.string bx) W' := fun W' k => by
        rw [← HBX.out]
        have hb := (BytesV.of_own HG.out.2).keep0 k
        rw [List.take_of_length_le (by have := HD.out.1; omega)] at hb
        exact hb.str0 (P := Tryz.prog) 37 9 5 Tryz.underlying37 Tryz.underlying5 Tryz.underlying9
      have hcd : ∀ W', Keeps [] wr W' → (convert 37 9 (.slice A0 G c0)).run Tryz.prog W' = .ok (.string bx) W' := fun W' k => by
        rw [← HBX.out]
        exact (HBS.out.keep0 (HMM.out.kp.trans k)).str0 (P := Tryz.prog) 37 9 5 Tryz.underlying37 Tryz.underlying5 Tryz.underlying9
      have HCV := Lib.hid (And.intro hcv hcd)
      have HDN := Lib.hid hdn
      clear hph hev hmm hgot hown hrow hG hA hbx hcv hcd hdn hil hnow hkm hmk
      go_wp2_with fail
      refine (done_on (HEV.out.keep0 (by (repeat (first | with_reducible assumption | with_reducible exact Keeps.refl _ _ | with_reducible apply Keeps.alloc' | with_reducible apply Keeps.drew' | with_reducible apply Keeps.drewN' | (with_reducible apply Keeps.setCell'; rotate_left; · simp)))))).mono ?_
      rintro e1 w1 ⟨rfl, k1⟩
      rw [HDN.out]
      have K1 := Lib.hid (show Keeps [] wr w1 from Keeps.trans (by (repeat (first | with_reducible assumption | with_reducible exact Keeps.refl _ _ | with_reducible apply Keeps.alloc' | with_reducible apply Keeps.drew' | with_reducible apply Keeps.drewN' | (with_reducible apply Keeps.setCell'; rotate_left; · simp)))) k1)
      clear k1
      go_wp2_with fail
      refine (on_state (HEV.out.keep0 K1.out)).mono ?_
      rintro e2 w2 ⟨rfl, rfl⟩
      go_wp2_with fail
      refine (done_on (HEV.out.keep0 K1.out)).mono ?_
      rintro e3 w3 ⟨rfl, k3⟩
      rw [HDN.out]
      have K3 := Lib.hid (K1.out.trans k3)
      have hs1 := HCV.out.1 w3 K3.out
      have hs2 := HCV.out.2 w3 K3.out
      clear k3
      go_wp2_with fail
      refine (wakes_any _).mono ?_
      rintro e4 w4 ⟨rfl, hb⟩
      go_wp2_with fail
      go_ret
      exact ⟨rfl, (HMM.out.kp.trans K3.out).trans ⟨hb.os, hb.tape, hb.output, hb.size, fun j hj _ => hb.block j hj⟩⟩
    · have HS := Lib.hid (And.intro hS hS4)
      have HMM := Lib.hid hmm
      have h1S : 1 ≤ S.st := by omega
      have h2S : S.st ≠ 2 := by omega
      have HST := Lib.hid (And.intro h1S h2S)
      have hge : decide ((10 : Int) ≤ (g : Int)) = true := decide_eq_true (by omega)
      have hge' : decide (10 ≤ g) = true := decide_eq_true hg10
      have cg := cell_of_block hmm.hbg 0
      simp at cg
      have HCG := Lib.hid cg
      clear hph hS hS4 hmm hgot hown hrow hil hnow hkm hmk h1S h2S hg10 cg
      go_wp2_with fail
      refine (edone_opening (HS.out.1.keep0 (by (repeat (first | with_reducible assumption | with_reducible exact Keeps.refl _ _ | with_reducible apply Keeps.alloc' | with_reducible apply Keeps.drew' | with_reducible apply Keeps.drewN' | (with_reducible apply Keeps.setCell'; rotate_left; · simp))))) HST.out.1 HST.out.2).mono ?_
      rintro e1 w1 ⟨rfl, k1⟩
      have K1 := Lib.hid (show Keeps [] wr w1 from Keeps.trans (by (repeat (first | with_reducible assumption | with_reducible exact Keeps.refl _ _ | with_reducible apply Keeps.alloc' | with_reducible apply Keeps.drew' | with_reducible apply Keeps.drewN' | (with_reducible apply Keeps.setCell'; rotate_left; · simp)))) k1)
      clear k1
      go_wp2_with fail
      refine (estate_any (HS.out.1.keep0 K1.out) HST.out.1).mono ?_
      rintro e2 w2 ⟨rfl, rfl⟩
      rw [HS.out.2]
      go_wp2_with fail
      refine (estate_any (HS.out.1.keep0 K1.out) HST.out.1).mono ?_
      rintro e3 w3 ⟨rfl, rfl⟩
      rw [HS.out.2]
      have cg := cell_keeps K1.out HCG.out (by simp)
      go_wp2_with fail
      refine (wakes_any _).mono ?_
      rintro e4 w4 ⟨rfl, hb⟩
      go_wp2_with fail
      go_ret
      exact ⟨rfl, (HMM.out.kp.trans K1.out).trans ⟨hb.os, hb.tape, hb.output, hb.size, fun j hj _ => hb.block j hj⟩⟩
end Go.Proofs.YtakgohocimlagaaGreat

namespace Go.Proofs.YtakgohocimlagaaGreat
open Go.RowKit Go.ChangeShapes Go.WideShapes Go.ChangeAt Go.Joins
set_option linter.unusedVariables false
set_option linter.unusedSimpArgs false

set_option maxRecDepth 100000 in
theorem open_bytes {H : Type} {enc : TypeId × Value → H} {W : World} {v : Value} {d : DataW H} {p : List MemPlace} {b0 : Nat} (o : Value.okWide Tryz.prog W .any b0 37 v) (h : DataW.Trod enc Tryz.prog W 0 (fun _ => true) true 37 v d p) :
    ∃ A n c l, v = .slice A n c ∧ BytesV W (.slice A n c) l := by
  obtain ⟨a0, len, cap, rfl⟩ := okWide_slice Tryz.underlying37 o
  obtain ⟨fuel, hf⟩ := h
  rcases open_ints Tryz.underlying37 Tryz.underlying5 (by kernel_rfl) hf with ⟨hcs, _⟩ | ⟨a, len', cap', zs, hcs, hb, hl, hm, hzl, _, hcell, hwf⟩
  · simp [Value.cells] at hcs
    obtain ⟨rfl, rfl, rfl⟩ := hcs
    exact ⟨none, 0, 0, [], rfl, BytesV.nil _⟩
  · simp [Value.cells] at hcs
    obtain ⟨rfl, rfl, rfl⟩ := hcs
    simp only [if_true] at hzl
    have h8 : ∀ z ∈ zs, 0 ≤ z ∧ z ≤ 255 := fun z hz => bounds_u8 (hwf z hz)
    refine ⟨some a, len, cap, (zs.take len).map (fun z => UInt8.ofNat z.toNat), rfl, some a, cap, by simp; omega, by simp; omega, hm, fun hp => ?_⟩
    simp at hp
    have c0 := hcell 0 (by omega)
    have hsp : a.spot = none := by
      unfold World.cell? at c0
      simp only [Addr.add, if_true] at c0
      split at c0
      · split at c0
        · cases c0
        · rename_i hs; simpa using hs
      · cases c0
    obtain ⟨blk, off, sp⟩ := a
    simp only at hsp
    subst hsp
    refine ⟨blk, off, rfl, fun i x hx => ?_⟩
    have hi : i < ((zs.take len).map (fun z => UInt8.ofNat z.toNat)).length := (List.getElem?_eq_some_iff.1 hx).1
    simp at hi
    rw [List.getElem?_map, List.getElem?_take, if_pos (by omega), List.getElem?_eq_getElem (by omega)] at hx
    simp only [Option.map_some, Option.some.injEq] at hx
    have ci := hcell i (by omega)
    have e0 : (⟨blk, off, none⟩ : Addr).add i = ⟨blk, off + i, none⟩ := by unfold Addr.add; split <;> simp_all
    rw [e0] at ci
    rw [ci, ← hx]
    have hz := h8 zs[i] (List.getElem_mem _)
    simp only [u8V, List.getD_eq_getElem?_getD, List.getElem?_eq_getElem (show i < zs.length by omega), Option.getD_some]
    congr 2
    simp
    omega
set_option maxRecDepth 100000 in
theorem open_u32 {H : Type} {enc : TypeId × Value → H} {W : World} {base : Nat} {sp : Nat → Bool} {held : Bool} {v : Value} {d : DataW H} {p : List MemPlace} {b0 : Nat} (o : Value.okWide Tryz.prog W .any b0 22 v) (h : DataW.Trod enc Tryz.prog W base sp held 22 v d p) :
    ∃ n : Int, v = .int .u32 n ∧ 0 ≤ n ∧ n ≤ 4294967295 := by
  obtain ⟨n, rfl, _, _, wn⟩ := open_int Tryz.underlying22 o h
  exact ⟨n, rfl, bounds_u32 wn⟩
set_option maxRecDepth 100000 in
theorem open_u16 {H : Type} {enc : TypeId × Value → H} {W : World} {base : Nat} {sp : Nat → Bool} {held : Bool} {v : Value} {d : DataW H} {p : List MemPlace} {b0 : Nat} (o : Value.okWide Tryz.prog W .any b0 24 v) (h : DataW.Trod enc Tryz.prog W base sp held 24 v d p) :
    ∃ n : Int, v = .int .u16 n ∧ 0 ≤ n ∧ n ≤ 65535 := by
  obtain ⟨n, rfl, _, _, wn⟩ := open_int Tryz.underlying24 o h
  exact ⟨n, rfl, bounds_u16 wn⟩

theorem Tryz.cellsBool : Tryz.prog.cellsOf 4 = 1 := by kernel_rfl
set_option maxRecDepth 100000 in
theorem open_bools {H : Type} {enc : TypeId × Value → H} {W : World} {v : Value} {d : DataW H} {p : List MemPlace} {b0 : Nat} (o : Value.okWide Tryz.prog W .any b0 57 v) (h : DataW.Trod enc Tryz.prog W 0 (fun _ => true) true 57 v d p) :
    ∃ L lc ls, v = .slice L (List.length ls) lc ∧ BoolsV W L ls ∧ ls.length ≤ lc ∧ lc ≤ maxLen := by
  obtain ⟨a0, len, cap, rfl⟩ := okWide_slice Tryz.underlying57 o
  obtain ⟨fuel, hf⟩ := h
  rcases DataW.trod_slice Tryz.underlying57 hf with ⟨hcs, _⟩ | ⟨a, len', cap', elems, rest, n, _, hcs, _, hb, hl, hm, hlen, hel, _, _⟩
  · simp [Value.cells] at hcs
    obtain ⟨rfl, rfl, rfl⟩ := hcs
    exact ⟨none, 0, [], rfl, fun i b h => by simp at h, by simp, by simp [maxLen]⟩
  · simp [Value.cells] at hcs
    obtain ⟨rfl, rfl, rfl⟩ := hcs
    rw [Tryz.cellsBool] at hel
    have key : ∀ i, i < len → ∃ b : Bool, W.cell? (a.add i) = some (.bool b) := by
      intro i hi
      have he := hel i hi
      rw [List.getElem?_eq_getElem (by omega)] at he
      obtain ⟨cs, hc, ht⟩ := Option.bind_eq_some_iff.1 he
      obtain ⟨_, hcl, hcc⟩ := World.cells?_some hc
      obtain ⟨b, rfl, _⟩ := DataW.trod_bool Tryz.underlying4 ht
      have g0 := hcc 0 (by omega)
      exact ⟨b, by simpa [Addr.add] using g0⟩
    refine ⟨some a, cap, (List.range len).map (fun i => match W.cell? (a.add i) with | some (.bool b) => b | _ => false), by simp, fun i b hi => ?_, by simp; omega, hm⟩
    have hil : i < len := by have := (List.getElem?_eq_some_iff.1 hi).1; simpa using this
    obtain ⟨b', hb'⟩ := key i hil
    rw [List.getElem?_map, List.getElem?_range hil] at hi
    simp only [Option.map_some, hb', Option.some.injEq] at hi
    subst hi
    have hsp : a.spot = none := by
      obtain ⟨x, g⟩ := key 0 (by omega)
      simp only [Addr.add, if_true] at g
      unfold World.cell? at g
      split at g
      · split at g
        · cases g
        · rename_i hs; simpa using hs
      · cases g
    obtain ⟨blk, off, sp⟩ := a
    simp only at hsp
    subst hsp
    have e0 : (⟨blk, off, none⟩ : Addr).add i = ⟨blk, off + i, none⟩ := by unfold Addr.add; split <;> simp_all
    rw [e0] at hb'
    exact ⟨blk, off, rfl, hb'⟩
set_option maxRecDepth 100000 in
theorem endpSends_typed {H : Type} (enc : TypeId × Value → H) (W : World) (base : Nat) {v0 v1 v2 v3 v4 v5 : Value} {d0 d1 d2 d3 d4 d5 : DataW H} {p0 p1 p2 p3 p4 p5 : List MemPlace}
    (o0 : Value.okWide Tryz.prog W .any base 37 v0) (o1 : Value.okWide Tryz.prog W .any base 22 v1) (o2 : Value.okWide Tryz.prog W .any base 22 v2) (o3 : Value.okWide Tryz.prog W .any base 24 v3) (o4 : Value.okWide Tryz.prog W .any base 24 v4) (o5 : Value.okWide Tryz.prog W .any base 57 v5)
    (h0 : DataW.Trod enc Tryz.prog W 0 (fun _ => true) true 37 v0 d0 p0) (h1 : DataW.Trod enc Tryz.prog W 0 (fun _ => true) true 22 v1 d1 p1) (h2 : DataW.Trod enc Tryz.prog W 0 (fun _ => true) true 22 v2 d2 p2) (h3 : DataW.Trod enc Tryz.prog W 0 (fun _ => true) true 24 v3 d3 p3) (h4 : DataW.Trod enc Tryz.prog W 0 (fun _ => true) true 24 v4 d4 p4) (h5 : DataW.Trod enc Tryz.prog W 0 (fun _ => true) true 57 v5 d5 p5) :
    Calls Tryz.prog 5 #[v0, v1, v2, v3, v4, v5] W fun e W' => e = .returned (.bool true) ∧ Below W.heap.size W W' := by
  obtain ⟨A, n, c, l, rfl, hb⟩ := open_bytes o0 h0
  obtain ⟨iss, rfl, a1⟩ := open_u32 o1 h1
  obtain ⟨irs, rfl, a2⟩ := open_u32 o2 h2
  obtain ⟨window, rfl, r0, r1⟩ := open_u16 o3 h3
  obtain ⟨mss, rfl, q0, q1⟩ := open_u16 o4 h4
  obtain ⟨L, lc, ls, rfl, hls, hlc, hlm⟩ := open_bools o5 h5
  exact (sends_walk W iss irs window mss a1 a2 r0 r1 q0 q1 A n c l hb L lc ls hls hlc hlm).mono fun e w' ⟨he, kk⟩ => ⟨he, kk.below (Nat.le_refl _) (by simp)⟩
end Go.Proofs.YtakgohocimlagaaGreat

