/-
  The walk of the law ReasmStream. Condition: the arguments are in the ranges of their kinds.
-/
import Derived.Test.YtknlcieceghaiaaReasmQ
namespace Go.Proofs.Ytknlcieceghaiaa
open Go.RowKit
set_option linter.unusedVariables false
set_option linter.unusedSimpArgs false

theorem Try.infoBool : (Try.prog.info? 4).map (fun i => (i.zero, i.size, i.bytes)) = some (some (.bool false), 1, 1) := by kernel_rfl
/-- make([]bool, n). -/
theorem wpList_make_bools {P : Program} {w : World} {ops : Array Oper} {rest : List Oper} {o : Oper} {a : Act} {Q : Exit → Act → World → Prop}
    (hg : o.guard = none) (l c : Operand) (t : TypeId) (hop : o.op = Op.makeSlice t l c) (e : TypeId) (h1 : P.underlying t = some (.slice e)) (hi : (P.info? e).map (fun i => (i.zero, i.size, i.bytes)) = some (some (.bool false), 1, 1))
    (kl kc : IntKind) (L C : Int) (n : Nat) (hl : a.eval l = .int kl L) (hc : a.eval c = .int kc C) (hL : L = (n : Int)) (hC : C = (n : Int)) (b2 : n ≤ 140737488355328)
    (hK : ∀ w', w'.heap[w.heap.size]? = some (.cells ((List.replicate n false).map Value.bool).toArray e (0, 0)) → Keeps [] w w' → wpList P ops Q rest (a.put o.dst (.slice (some ⟨w.heap.size, 0, none⟩) n n)) w') :
    wpList P ops Q (o :: rest) a w := by
  obtain ⟨i0, hi0, hz0, hz1, hz2⟩ := info_parts hi
  refine wpList_make_full w hg l c t hop w.heap.size e i0 (.bool false) 1 h1 hi0 hz0 hz1 kl kc L C n hl hc hL hC (by rw [hz2]; omega) (by simp only [maxLen]; omega) (Nat.le_refl _) ?_
  intro w' hown hgr
  have hk := Keeps.grown0 hgr
  rcases hown.2 with ⟨h0, _⟩ | ⟨g, cap, cur, he, _, hh, _, _, hs, ht⟩
  · cases h0
  · injection he with e1 e2 e3
    injection e1 with e1
    injection e1 with e1
    subst e1 e3
    refine hK w' ?_ hk
    rw [hh]
    have h1 : cur.toList = (List.replicate n false).map Value.bool := by
      rw [List.take_of_length_le (by simp [hs])] at ht
      rw [ht]
      simp only [madeCells, Value.cells, Nat.mul_one, List.size_toArray, List.length_cons, List.length_nil, Array.toList_map, Array.toList_range, List.map_replicate]
      rw [List.eq_replicate_iff]
      refine ⟨by simp, fun b hb => ?_⟩
      obtain ⟨i, _, rfl⟩ := List.mem_map.1 hb
      simp [Nat.mod_one]
    rw [← h1]

theorem addr_add (g o i : Nat) : (⟨g, o, none⟩ : Addr).add i = ⟨g, o + i, none⟩ := by unfold Addr.add; split <;> simp_all
theorem own_keepsB {w w' : World} {B e sz n b : Nat} {v : Value} {xs : List Value} (h : w.ownsRow B e sz v n xs) (k : Keeps [b] w w') (hb : v.ownBlock ≠ some b) : w'.ownsRow B e sz v n xs :=
  h.kept k.toGrown (Or.inr hb)
theorem freshN_le (P : List Bool) (F j : Nat) : freshN P F j ≤ j := by
  unfold freshN cntF
  exact Nat.le_trans List.countP_le_length (by simp)
theorem own_keepsS {w w' : World} {B e sz n : Nat} {v : Value} {xs : List Value} {S : List Nat} (h : w.ownsRow B e sz v n xs) (k : Keeps S w w') (hS : ∀ j, v.ownBlock = some j → j ∉ S) : w'.ownsRow B e sz v n xs := by
  refine ⟨h.1, ?_⟩
  rcases h.2 with h0 | ⟨g, cap, cur, rfl, hb, hg, hr⟩
  · exact .inl h0
  · exact .inr ⟨g, cap, cur, rfl, hb, (k.block g (lt_of_block hg) (hS g rfl)).trans hg, hr⟩
/-- the loop's state -/
structure Strm (W : World) (S : List UInt8) (first : Int) (M : Nat) (b pb : Nat) (ov : Value) (wr : World) (st : BS) (P : List Bool) (o : List UInt8) (mb : Nat) : Prop where
  inv : StreamInv S first M st P o
  bf : BuffAt wr b mb st
  put : wr.heap[pb]? = some (.cells (P.map Value.bool).toArray 4 (0, 0))
  own : wr.ownsRow W.heap.size 5 1 ov o.length (o.map u8V)
  sep : ∀ j, ov.ownBlock = some j → j ≠ b ∧ j ≠ mb ∧ j ≠ pb
  nb : b ≠ pb
  nm : mb ≠ pb
  zb : W.heap.size ≤ b
  zm : W.heap.size ≤ mb
  zp : W.heap.size ≤ pb
  kp : Keeps [] W wr
theorem Strm.keep {W : World} {S : List UInt8} {first : Int} {M b pb mb : Nat} {ov : Value} {wr w' : World} {st : BS} {P : List Bool} {o : List UInt8} (h : Strm W S first M b pb ov wr st P o mb) (k : Keeps [] wr w') : Strm W S first M b pb ov w' st P o mb :=
  ⟨h.inv, h.bf.keep k (by simp) (by simp), (k.block _ (lt_of_block h.put) (by simp)).trans h.put, own_keeps h.own k, h.sep, h.nb, h.nm, h.zb, h.zm, h.zp, h.kp.trans k⟩
theorem Strm.took {W : World} {S : List UInt8} {first : Int} {M b pb mb : Nat} {ov : Value} {wr w7 : World} {st : BS} {P : List Bool} {o : List UInt8} (h : Strm W S first M b pb ov wr st P o mb) (hb7 : BuffAt w7 b mb st.take) (k7 : Keeps [b, mb] wr w7) :
    w7.ownsRow W.heap.size 5 1 ov o.length (o.map u8V) ∧ W.heap.size ≤ w7.heap.size ∧
    ∀ v8 w8, w8.ownsRow W.heap.size 5 1 v8 (o.length + st.out.length) ((o ++ st.out).map u8V) → w7.grownBy w8 ov.ownBlock → (v8.ownBlock = ov.ownBlock ∨ v8.ownBlock = some w7.heap.size) → Strm W S first M b pb v8 w8 st.take P (o ++ st.out) mb := by
  have ho7 := own_keepsS h.own k7 (fun j hj => by have := h.sep j hj; simp; omega)
  have hk7 : Keeps [] W w7 := (h.kp.mono (T := [b, mb]) (by simp)).trans k7 |>.fresh (by intro x hx hlt; have := h.zb; have := h.zm; simp at hx; omega)
  have hp7 := (k7.block _ (lt_of_block h.put) (by have := h.nb; have := h.nm; simp; omega)).trans h.put
  refine ⟨ho7, hk7.size, fun v8 w8 hown8 hg8 hat8 => ?_⟩
  have hblk : ∀ j, j < w7.heap.size → ov.ownBlock ≠ some j → w8.heap[j]? = w7.heap[j]? := fun j hj hne => hg8.block j hj (fun e => hne e.symm)
  have hzw := hk7.size
  refine ⟨h.inv.takeStep, ⟨(hblk _ (lt_of_block hb7.head) (fun e => (h.sep _ e).1 rfl)).trans hb7.head, hb7.map.of_heap (hblk _ hb7.map.lt (fun e => (h.sep _ e).2.1 rfl))⟩, (hblk _ (lt_of_block hp7) (fun e => (h.sep _ e).2.2 rfl)).trans hp7, by rw [List.length_append]; exact hown8, fun j hj => ?_, h.nb, h.nm, h.zb, h.zm, h.zp, ⟨hg8.os.trans hk7.os, hg8.tape.trans hk7.tape, hg8.output.trans hk7.output, Nat.le_trans hk7.size hg8.size, fun j hj _ => (hblk j (by omega) (fun e => by have := (ho7.lt j e).1; omega)).trans (hk7.block j hj (by simp))⟩⟩
  rcases hat8 with h8 | h8
  · exact h.sep j (by rw [← h8]; exact hj)
  · rw [h8] at hj
    injection hj with hj
    have := lt_of_block hb7.head
    have := hb7.map.lt
    have := lt_of_block hp7
    omega
theorem BytesV.keepS {w w' : World} {v : Value} {l : List UInt8} {S : List Nat} (h : BytesV w v l) (k : Keeps S w w') (hS : 0 < l.length → ∀ g o n c, v = .slice (some ⟨g, o, none⟩) n c → g ∉ S) : BytesV w' v l := by
  obtain ⟨A, c, rfl, h1, h2, h3⟩ := h
  refine ⟨A, c, rfl, h1, h2, fun hp => ?_⟩
  obtain ⟨g, o, rfl, hc⟩ := h3 hp
  exact ⟨g, o, rfl, fun i x hx => cell_keeps k (hc i x hx) (hS hp g o _ _ rfl)⟩
/-- string(b), whatever its length. -/
theorem BytesV.str0 {P : Program} {w : World} {A : Option Addr} {n c : Nat} {l : List UInt8} (h : BytesV w (.slice A n c) l) (src dst e : TypeId) (hs : P.underlying src = some (.slice e)) (he : P.underlying e = some (.int .u8)) (hd : P.underlying dst = some .string) :
    (convert src dst (.slice A n c)).run P w = .ok (.string ⟨l.toArray⟩) w := by
  rcases Nat.eq_zero_or_pos n with h0 | h0
  · have hl : l = [] := List.eq_nil_of_length_eq_zero (by have := h.form.1; omega)
    subst hl
    subst h0
    cases A with
    | none =>
      rw [run_convert_bytes_string w src dst e none 0 c hs he hd]
      simp [Conv.bytesToString]
      rfl
    | some a => exact run_convert_bytes_back w src dst e a c [] hs he hd (fun j hj => by simp at hj)
  · exact h.str src dst e hs he hd h0
theorem BS.take_ready {s : BS} (ok : s.ok) : s.take.ready = 0 := by
  have h := BS.ready_end ok
  have h2 : AL.find s.take.taken s.take.m = none := by
    show AL.find (s.taken + s.ready) (delN s.m s.taken s.ready) = none
    rw [delN_find ok.nd, if_neg (by omega)]
    exact h
  unfold BS.ready
  generalize (s.take.room - s.take.taken).toNat = f
  cases f with
  | zero => rfl
  | succ f => simp only [rdy, h2]
theorem PiecesAt.keep {W w : World} {q : Option Addr} {len : Nat} (h : PiecesAt W q len) (k : Keeps [] W w) {i : Nat} (hi : i < len) : ∃ blk off, q = some ⟨blk, off, none⟩ ∧ ∃ (frm long : Int) (tk : Bool), 0 ≤ frm ∧ frm ≤ 65535 ∧ 0 ≤ long ∧ long ≤ 65535 ∧
    w.cell? ⟨blk, off + i * 3, none⟩ = some (.int .u16 frm) ∧ w.cell? ⟨blk, off + i * 3 + 1, none⟩ = some (.int .u16 long) ∧ w.cell? ⟨blk, off + i * 3 + 2, none⟩ = some (.bool tk) := by
  rcases h with h | ⟨blk, off, rfl, hlt, h⟩
  · omega
  · obtain ⟨frm, long, tk, h1, h2, h3, h4, h5, h6, h7⟩ := h i hi
    exact ⟨blk, off, rfl, frm, long, tk, h1, h2, h3, h4, cell_keeps k h5 (by simp), cell_keeps k h6 (by simp), cell_keeps k h7 (by simp)⟩

set_option maxRecDepth 100000 in
set_option maxHeartbeats 2000000 in
theorem stream_walk (W : World) (first room : Int) (u0 : U32 first) (r0 : 0 ≤ room) (r1 : room ≤ 65535) (A0 : Option Addr) (n0 c0 : Nat) (l0 : List UInt8) (hb : BytesV W (.slice A0 n0 c0) l0) (q : Option Addr) (len cap : Nat) (hl : len ≤ maxLen) (hp : PiecesAt W q len) :
    Calls Try.prog 3 #[.slice A0 n0 c0, .int .u32 first, .int .u16 room, .slice q len cap] W fun e w' => e = .returned (.bool true) ∧ Keeps [] W w' := by
  obtain ⟨hn0, hn1, hn2⟩ := hb.form
  subst hn0
  obtain ⟨S, hS⟩ : ∃ S, S = l0.take 600 := ⟨_, rfl⟩
  obtain ⟨n, hSn⟩ : ∃ n, S.length = n := ⟨_, rfl⟩
  have hSl : (min (l0.length : Int) 600).toNat = n := by rw [← hSn, hS]; simp; omega
  have hS6 : n ≤ 600 := by rw [← hSn, hS]; simp; omega
  have hSc : n ≤ c0 := by rw [← hSn, hS]; simp; omega
  have hbs : BytesV W (.slice A0 n c0) S := by
    subst hSn
    rcases Nat.eq_zero_or_pos S.length with h0 | h0
    · have : S = [] := List.eq_nil_of_length_eq_zero h0
      rw [this]; exact BytesV.empty _ hn2
    · obtain ⟨g, o, rfl, hc⟩ := hb.get (by rw [hS] at h0; simp at h0; omega)
      refine ⟨some ⟨g, o, none⟩, c0, rfl, hSc, hn2, fun _ => ⟨g, o, rfl, fun i x hx => hc i x ?_⟩⟩
      rw [hS, List.getElem?_take] at hx
      split at hx
      · exact hx
      · cases hx
  obtain ⟨M, hM⟩ : ∃ M : Nat, (M : Int) = room % 700 := ⟨(room % 700).toNat, by omega⟩
  have HBS := Lib.hid hbs
  have HN := Lib.hid hSn
  clear hb hS hbs hSn
  go_enter Try.func3, Try.ntmps3
  go_upto_region 2 with fail
  go_wp2_with fail
  rw [← hM]
  refine (bnew_ok W first M (by omega) (by omega)).mono ?_
  rintro e w1 ⟨b, mb, rfl, hb1, k1, hbs, hms⟩
  have hbb := lt_of_block hb1.head
  have hmm := hb1.map.lt
  have HB1 := Lib.hid hb1
  have K1 := Lib.hid k1
  have hne1 := hb1.ne
  clear hb1 k1
  go_wp2_with (at_make; refine wpList_make_bools rfl (.tmp 41) (.tmp 41) 30 rfl 4 Try.underlying30 Try.infoBool .i64 .i64 _ _ n rfl rfl rfl rfl (by omega) ?_)
  intro w2 hp2 k2
  have hb2 := HB1.out.keep k2 (by simp) (by simp)
  have hpl := lt_of_block hp2
  have K2 := Lib.hid (K1.out.trans k2)
  have HB2 := Lib.hid hb2
  have HP2 := Lib.hid hp2
  have hz2 := k2.size
  have hne2 : b ≠ w1.heap.size ∧ mb ≠ w1.heap.size := ⟨by omega, by omega⟩
  clear hb2 hp2 k2 HB1 K1
  have hst : Strm W S first M b w1.heap.size (.slice none 0 0) w2 ⟨first, 0, M, []⟩ (List.replicate n false) [] mb :=
    ⟨by have := StreamInv.start (S := S) u0 (M := M) (by omega); rw [HN.out] at this; exact this, HB2.out, by simpa using HP2.out, World.ownsRow_nil _ _ _ _, (fun j h => by simp [Value.ownBlock] at h), hne2.1, hne2.2, by omega, by omega, by have := K2.out.size; omega, K2.out⟩
  have HST := Lib.hid hst
  clear hst HB2 HP2 K2
  generalize hpb : w1.heap.size = pb at *
  go_wp2_with fail
  go_loopw [13, 14] (fun ov iv wr => ∃ (k : Nat) (st : BS) (P : List Bool) (o : List UInt8) (mb : Nat), iv = .int .i64 k ∧ k ≤ 60 ∧ k ≤ len ∧ Strm W S first M b pb ov wr st P o mb) (fun _ iv _ => 60 - (intOf iv).toNat)
  case atStart => exact ⟨0, _, _, _, _, rfl, by omega, by omega, HST.out⟩
  case round =>
    obtain ⟨k, st, P, o, mb, rfl, hk6, hkl, hs⟩ := hrel
    clear hne1 hne2 hbb hmm hbs hms hpl hz2 HST
    have HS := Lib.hid hs
    by_cases hk1 : k < len
    · have hk1' : (k : Int) < len := by omega
      by_cases hk2 : k < 60
      · have hk2' : (k : Int) < 60 := by omega
        obtain ⟨blk, off, rfl, frm, long, tk, f0, f1, g0, g1, p0, p1, p2⟩ := hp.keep hs.kp hk1
        clear hs
        go_upto_if 55 with fail
        go_cut [] (fun wx => ∃ st' P' mb', Strm W S first M b pb u13 wx st' P' o mb')
        case first =>
          by_cases hn : n = 0
          · subst hn
            go_wp2_with fail
            go_meet
            exact ⟨st, P, mb, HS.out⟩
          · have hn' : (0 : Int) < n := by omega
            obtain ⟨F, hF⟩ : ∃ F : Nat, frm % (n : Int) = F := ⟨(frm % (n : Int)).toNat, by have := Int.emod_nonneg frm (show (n : Int) ≠ 0 by omega); omega⟩
            have hFl : F < n := by have := Int.emod_lt_of_pos frm hn'; omega
            obtain ⟨tt, htt⟩ : ∃ tt : Nat, min (n : Int) ((F : Int) + long % 100) = tt := ⟨(min (n : Int) ((F : Int) + long % 100)).toNat, by omega⟩
            have ht1 : F ≤ tt := by omega
            have ht2 : tt ≤ n := by omega
            have ht1' : (F : Int) ≤ tt := by omega
            have ht2' : (tt : Int) ≤ c0 := by omega
            go_wp2_with fail
            obtain ⟨g, og, hA, hcell⟩ := HBS.out.get (by omega)
            subst hA
            have hd : BytesV wr (.slice (Option.map (fun x : Addr => x.add F) (some (⟨g, og, none⟩ : Addr))) (tt - F) (c0 - F)) ((S.drop F).take (tt - F)) := by
              have h1 := (HBS.out.keep0 HS.out.kp).sub (lo := F) (hi := tt) ht1 ht2 (some ⟨g, og + F, none⟩) (c0 - F) (fun _ => rfl) (by omega) (by omega)
              simp only [Option.map_some, addr_add]
              exact h1
            have hS9 : S.length ≤ 600 := by rw [HN.out]; exact hS6
            obtain ⟨hcnt, hinv⟩ := HS.out.inv.putStep hS9 ht1 (by rw [HN.out]; exact ht2) (by omega)
            refine (bput_any HS.out.bf HS.out.inv.ok (addI first F) (addI_bd _ _) _ (tt - F) (c0 - F) ((S.drop F).take (tt - F)) hd (by omega)).mono ?_
            rintro e w5 (⟨hh, rfl, k5⟩ | ⟨hh, rfl, k5, mb5, hb5, hz5⟩)
            · have hs5 : Strm W S first M b pb u13 w5 st P o mb := ⟨HS.out.inv, HS.out.bf.keep k5 (by simp) (by simp), (k5.block _ (lt_of_block HS.out.put) (by simp)).trans HS.out.put, own_keeps HS.out.own k5, HS.out.sep, HS.out.nb, HS.out.nm, HS.out.zb, HS.out.zm, HS.out.zp, HS.out.kp.trans k5⟩
              have HS5 := Lib.hid hs5
              clear hs5 k5
              go_wp2_with fail
              exact ⟨⟨k + 1, st, P, o, mb, by simp, by omega, by omega, HS5.out⟩, by simp [intOf]; omega⟩
            · have hI := hinv hh
              have HI := Lib.hid hI
              have hov := own_keepsB HS.out.own k5 (fun e => (HS.out.sep _ e).1 rfl)
              have hpl5 := lt_of_block HS.out.put
              have hp5 : w5.heap[pb]? = some (.cells ((setT P F F).map Value.bool).toArray 4 (0, 0)) := by rw [setT_none]; exact (k5.block _ hpl5 (by have := HS.out.nb; simp; omega)).trans HS.out.put
              have hle5 := k5.size
              have hzr := HS.out.kp.size
              have hkp5 : Keeps [] W w5 := (HS.out.kp.mono (T := [b]) (by simp)).trans k5 |>.fresh (by intro x hx hlt; simp at hx; have := HS.out.zb; omega)
              have hsep5 : ∀ j, u13.ownBlock = some j → j ≠ b ∧ j ≠ mb5 ∧ j ≠ pb := fun j hj => ⟨(HS.out.sep j hj).1, by have := (HS.out.own.lt j hj).2; omega, (HS.out.sep j hj).2.2⟩
              have hPl : P.length = n := by rw [HS.out.inv.plen, HN.out]
              have HB5 := Lib.hid hb5
              have HP5 := Lib.hid hp5
              have HO5 := Lib.hid hov
              have HK5 := Lib.hid hkp5
              have HSP5 := Lib.hid hsep5
              have hal : (st.anew (addI first F) ((S.drop F).take (tt - F))).length ≤ 16384 := keys_len (BS.anew_ok HS.out.inv.ok (addI_bd _ _) _ (by simp; omega)).nd (fun x hx => by have := (BS.anew_ok HS.out.inv.ok (addI_bd first F) ((S.drop F).take (tt - F)) (by simp; omega)).keys x hx; have := HS.out.inv.ok.t0; have := HS.out.inv.ok.r; simp only at *; omega)
              generalize hAN : st.anew (addI first F) ((S.drop F).take (tt - F)) = an at *
              have HCN := Lib.hid hcnt
              clear hb5 hp5 hov hkp5 hsep5 hcnt hinv hI hh k5 hcell hd
              go_wp2_with fail
              go_loopw [19, 20] (fun fv kv w6 => ∃ j : Nat, kv = .int .i64 j ∧ F ≤ j ∧ j ≤ max F (min tt M) ∧ fv = .int .i64 (freshN P F j) ∧ w6.heap[pb]? = some (.cells ((setT P F j).map Value.bool).toArray 4 (0, 0)) ∧ Keeps [pb] w5 w6) (fun _ kv _ => 700 - (intOf kv).toNat)
              case atStart => exact ⟨F, rfl, Nat.le_refl _, by omega, by rw [freshN_start]; rfl, HP5.out, Keeps.refl _ _⟩
              case round =>
                obtain ⟨j, rfl, hj1, hj2, rfl, hp6, k6⟩ := hrel
                by_cases hj3 : j < tt
                · have hj3' : (j : Int) < tt := by omega
                  by_cases hj4 : j < M
                  · have hj4' : (j : Int) < room % 700 := by omega
                    have hjn : (j : Int) < n := by omega
                    obtain ⟨pj, hpj⟩ : ∃ pj, P[j]? = some pj := ⟨P[j]'(by omega), List.getElem?_eq_getElem (by omega)⟩
                    have hc6 := cell_of_block hp6 j
                    rw [List.getElem?_toArray, List.getElem?_map, setT_get, hpj] at hc6
                    have hnj : (decide (F ≤ j) && decide (j < j)) = false := by simp
                    simp only [hnj, Bool.or_false, Option.map_some] at hc6
                    have hz6 := free_of_block hp6 j
                    have hst6 := heap_setCell_self hp6 j (.bool true)
                    have hse : ((setT P F j).map Value.bool).toArray.setIfInBounds j (Value.bool true) = ((setT P F (j + 1)).map Value.bool).toArray := by rw [← setT_succ P hj1, List.setIfInBounds_toArray, List.map_set]
                    rw [hse] at hst6
                    have hfr := freshN_succ P hj1
                    rw [List.getD_eq_getElem?_getD, hpj, Option.getD_some] at hfr
                    have hk6' : Keeps [pb] w5 (wr.setCell ⟨pb, j, none⟩ (.bool true)) := k6.setCell' (Or.inr (by simp)) _
                    have hfb := freshN_le P F j
                    have H6 := Lib.hid hst6
                    have K6 := Lib.hid hk6'
                    clear hp6 k6 hpj hse hst6 hk6'
                    cases pj
                    · have FR := Lib.hid (show ((freshN P F j : Nat) : Int) + 1 = (freshN P F (j + 1) : Nat) by rw [hfr]; simp)
                      clear hfr
                      go_wp2_with fail
                      exact ⟨⟨j + 1, by simp, by omega, by omega, by rw [FR.out], H6.out, K6.out⟩, by simp [intOf]; omega⟩
                    · have FR := Lib.hid (show ((freshN P F j : Nat) : Int) = (freshN P F (j + 1) : Nat) by rw [hfr]; simp)
                      clear hfr
                      go_wp2_with fail
                      exact ⟨⟨j + 1, by simp, by omega, by omega, by rw [FR.out], H6.out, K6.out⟩, by simp [intOf]; omega⟩
                  · have hj4' : ¬ (j : Int) < room % 700 := by omega
                    have hjK : j = max F (min tt M) := by omega
                    have hbe : (an.length : Int) - st.m.length = freshN P F j := by rw [HCN.out, hjK]; push_cast; omega
                    rw [hbe]
                    have hfin : Strm W S first M b pb u13 wr { st with m := an } (setT P F (max F (min tt M))) o mb5 := ⟨HI.out, HB5.out.keep k6 (by have := HS.out.nb; simpa using this) (by simp; omega), by rw [← hjK]; exact hp6, own_keepsB HO5.out k6 (fun e => (HSP5.out _ e).2.2 rfl), HSP5.out, HS.out.nb, by omega, HS.out.zb, by omega, HS.out.zp, ((HK5.out.mono (T := [pb]) (by simp)).trans k6).fresh (by intro x hx hlt; simp at hx; have := HS.out.zp; omega)⟩
                    have HF := Lib.hid hfin
                    clear hfin hbe hp6 k6
                    go_wp2_with fail
                    go_meet
                    exact ⟨_, _, _, HF.out⟩
                · have hj3' : ¬ (j : Int) < tt := by omega
                  have hjK : j = max F (min tt M) := by omega
                  have hbe : (an.length : Int) - st.m.length = freshN P F j := by rw [HCN.out, hjK]; push_cast; omega
                  rw [hbe]
                  have hfin : Strm W S first M b pb u13 wr { st with m := an } (setT P F (max F (min tt M))) o mb5 := ⟨HI.out, HB5.out.keep k6 (by have := HS.out.nb; simpa using this) (by simp; omega), by rw [← hjK]; exact hp6, own_keepsB HO5.out k6 (fun e => (HSP5.out _ e).2.2 rfl), HSP5.out, HS.out.nb, by omega, HS.out.zb, by omega, HS.out.zp, ((HK5.out.mono (T := [pb]) (by simp)).trans k6).fresh (by intro x hx hlt; simp at hx; have := HS.out.zp; omega)⟩
                  have HF := Lib.hid hfin
                  clear hfin hbe hp6 k6
                  go_wp2_with fail
                  go_meet
                  exact ⟨_, _, _, HF.out⟩
        case rest =>
          obtain ⟨st', P', mb', hs'⟩ := hcut
          obtain ⟨blk2, off2, hq2, frm2, long2, tk2, _, _, _, _, _, _, p22⟩ := hp.keep hs'.kp hk1
          injection hq2 with hq2
          injection hq2 with hq3 hq4
          subst hq3 hq4
          have HS1 := Lib.hid hs'
          clear hs' HS p0 p1 p2
          go_upto_if 126 with fail
          go_cut [13] (fun ov wx => ∃ st2 o2, Strm W S first M b pb ov wx st2 P' o2 mb')
          case first =>
            cases tk2
            · go_wp2_with fail
              go_meet
              exact ⟨st', o, HS1.out⟩
            · have hI := HS1.out.inv
              have hol : o.length ≤ 600 := by have := congrArg List.length hI.out; simp at this; rw [HN.out] at this; omega
              have hrl : st'.out.length ≤ 16384 := by have := BS.ready_le hI.ok; have := hI.ok.t0; have := hI.ok.r; unfold BS.out; rw [bytesN_len]; omega
              go_wp2_with fail
              refine (btake_any HS1.out.bf hI.ok).mono ?_
              rintro e w7 ⟨x, rfl, hx, hb7, k7⟩
              have hxb := BytesV.of_own hx
              have HT := Lib.hid (HS1.out.took hb7 k7)
              have HX7 := Lib.hid hxb
              clear hb7 hx hxb k7 hI
              go_wp2_with (at_builtin; refine wpList_append_bytes rfl _ _ W.heap.size 22 5 rfl Try.underlying22 Try.infoU8 u13 o.length o rfl HT.out.1 x st'.out rfl HX7.out (by omega) HT.out.2.1 ?_)
              intro v8 w8 hown8 hg8 hat8 _
              have HF := Lib.hid (HT.out.2.2 v8 w8 (by rw [List.map_append]; exact hown8) hg8 hat8)
              clear hown8 hg8 hat8
              go_wp2_with fail
              go_meet
              exact ⟨_, _, HF.out⟩
          case rest =>
            obtain ⟨st2, o2, hs2⟩ := hcut
            have hI := hs2.inv
            have hol : o2.length ≤ 600 := by have := congrArg List.length hI.out; simp at this; rw [HN.out] at this; omega
            have hnext : st2.next = (first + o2.length) % 4294967296 := by unfold BS.next addI; rw [hI.efirst, hI.tk]
            have hroom : st2.room - st2.taken = room % 700 - o2.length := by rw [hI.eroom, hI.tk]; omega
            have hheld : st2.held.length ≤ 16 := by unfold BS.held; rw [heldR_len]; exact hI.holes
            have CN := Lib.hid (bnext_any hs2.bf hI.ok)
            have CR := Lib.hid (broom_any hs2.bf hI.ok)
            have CH := Lib.hid (fun d => bheld_any (hs2.bf.drewN d) hI.ok)
            rw [hnext] at CN
            rw [hroom] at CR
            obtain ⟨A2, c2, rfl⟩ := own_slice hs2.own
            have HS2 := Lib.hid hs2
            clear hs2 hI hnext hroom p22
            go_wp2_with fail
            refine CN.out.mono ?_
            rintro e w9 ⟨rfl, rfl⟩
            go_wp2_with fail
            refine CR.out.mono ?_
            rintro e w9 ⟨rfl, d, rfl⟩
            go_wp2_with fail
            refine (CH.out d).mono ?_
            rintro e w10 ⟨v, rfl, hv, k10⟩
            obtain ⟨A3, c3, rfl⟩ := own_slice hv
            have hheld' : (st2.held.length : Int) ≤ 16 := by omega
            have HF := Lib.hid (HS2.out.keep ((Keeps.drewN [] _ d).trans k10))
            clear hv k10
            go_wp2_with fail
            exact ⟨⟨k + 1, _, _, _, _, by simp, by omega, by omega, HF.out⟩, by simp [intOf]; omega⟩
      · have hk2' : ¬ (k : Int) < 60 := by omega
        have hI := hs.inv
        have hol : o.length ≤ 600 := by have := congrArg List.length hI.out; simp at this; rw [HN.out] at this; omega
        have hrl : st.out.length ≤ 16384 := by have := BS.ready_le hI.ok; have := hI.ok.t0; have := hI.ok.r; unfold BS.out; rw [bytesN_len]; omega
        have HRD := Lib.hid (show st.out.length = st.ready from bytesN_len _ _ _)
        clear hs
        go_wp2_with fail
        refine (bready_any HS.out.bf hI.ok).mono ?_
        rintro e w3 ⟨rfl, d, rfl⟩
        go_wp2_with fail
        refine (btake_any (HS.out.bf.drewN d) hI.ok).mono ?_
        rintro e w7 ⟨x, rfl, hx, hb7, k7⟩
        have hxb := BytesV.of_own hx
        have HT := Lib.hid ((HS.out.keep (Keeps.drewN [] _ d)).took hb7 k7)
        have HX7 := Lib.hid hxb
        obtain ⟨Ax, cx, rfl⟩ := own_slice hx
        have OK0 := Lib.hid hI.ok
        clear hb7 hx hxb k7 hI
        go_wp2_with (at_builtin; refine wpList_append_bytes rfl _ _ W.heap.size 22 5 rfl Try.underlying22 Try.infoU8 u13 o.length o rfl HT.out.1 _ st.out rfl HX7.out (by omega) HT.out.2.1 ?_)
        intro v8 w8 hown8 hg8 hat8 _
        have HF := Lib.hid (HT.out.2.2 v8 w8 (by rw [List.map_append]; exact hown8) hg8 hat8)
        clear hown8 hg8 hat8 HT HX7
        obtain ⟨o8, ho8⟩ : ∃ o8, o8 = o ++ st.out := ⟨_, rfl⟩
        rw [← ho8] at HF
        obtain ⟨A8, c8, rfl⟩ := own_slice HF.out.own
        have h8n : o8.length ≤ n := by have := congrArg List.length HF.out.inv.out; simp at this; rw [HN.out] at this; omega
        have hPl : P.length = n := by rw [HF.out.inv.plen, HN.out]
        have hpt : ∀ i, i < n → P[i]? = some (decide (i < o8.length) || (AL.find (i : Int) st.take.m).isSome) := fun i hi => by
          rw [HF.out.inv.put i (by rw [HN.out]; exact hi), HF.out.inv.tk]; simp
        have hp8 := HF.out.put
        have HPT := Lib.hid hpt
        have htk8 := HF.out.inv.tk
        have hfe : AL.find ((o8.length : Nat) : Int) st.take.m = none := by
          rw [← htk8]
          have h := BS.ready_end (BS.take_ok OK0.out)
          rw [BS.take_ready OK0.out] at h
          simpa using h
        have HFE := Lib.hid hfe
        have hrd2 := BS.take_ready OK0.out
        clear hpt hfe htk8 ho8
        go_wp2_with fail
        go_loopw [23] (fun v wx => ∃ j : Nat, v = .int .i64 j ∧ j ≤ o8.length ∧ w8 = wx) (fun v _ => 700 - (intOf v).toNat)
        case atStart => exact ⟨0, rfl, by omega, rfl⟩
        case round =>
          obtain ⟨j, rfl, hj, rfl⟩ := hrel
          by_cases hj1 : j < o8.length
          · have hjn : (j : Int) < n := by omega
            have hc := cell_of_block hp8 j
            rw [List.getElem?_toArray, List.getElem?_map, HPT.out j (by omega)] at hc
            simp only [hj1, decide_true, Bool.true_or, Option.map_some] at hc
            go_wp2_with fail
            exact ⟨⟨j + 1, by simp, by omega, trivial⟩, by simp [intOf]; omega⟩
          · obtain rfl : j = o8.length := by omega
            have h8c : (o8.length : Int) ≤ c0 := by omega
            have hob : BytesV w8 (.slice A8 o8.length c8) o8 := BytesV.of_own HF.out.own
            have hsb : BytesV w8 (.slice A0 o8.length c0) o8 := by
              have h1 := HBS.out.keep0 HF.out.kp
              obtain ⟨An, cn, e1, e2, e3, e4⟩ := h1
              injection e1 with e1 e5 e6
              subst e1 e6
              refine ⟨_, _, rfl, by omega, e3, fun hp0 => ?_⟩
              obtain ⟨g, og, rfl, hc⟩ := e4 (by rw [HN.out]; omega)
              refine ⟨g, og, rfl, fun i x hx => hc i x ?_⟩
              have := HF.out.inv.out
              rw [this, List.getElem?_take] at hx
              split at hx
              · exact hx
              · cases hx
            have GS := Lib.hid (fun (X : World) (k : Keeps [b, mb] w8 X) => (⟨(hob.keepS k (fun _ g og nn cc e => by have := HF.out.sep g (by rw [e]; rfl); simp; omega)).str0 (P := Try.prog) 22 9 5 Try.underlying22 Try.underlying5 Try.underlying9, (hsb.keepS k (fun hp0 g og nn cc e => by
            injection e with e1
            obtain ⟨g', o', e2, hc⟩ := HBS.out.get (by omega)
            rw [e1] at e2
            injection e2 with e2
            injection e2 with e3 e4
            subst e3
            have hl0 : 0 < S.length := by rw [HN.out]; omega
            have := lt_of_cell (hc 0 S[0] (List.getElem?_eq_getElem hl0))
            have := HF.out.zb
            have := HF.out.zm
            simp at *
            omega)).str0 (P := Try.prog) 22 9 5 Try.underlying22 Try.underlying5 Try.underlying9⟩ :
              (convert 22 9 (.slice A8 o8.length c8)).run Try.prog X = .ok (.string ⟨o8.toArray⟩) X ∧ (convert 22 9 (.slice A0 o8.length c0)).run Try.prog X = .ok (.string ⟨o8.toArray⟩) X))
            have HBK := Lib.hid (fun (X : World) (k : Keeps [] w8 X) => HF.out.bf.keep k (by simp) (by simp))
            have OKT := Lib.hid (BS.take_ok OK0.out)
            have hrd := HRD.out
            have hol2 : st.take.out.length = 0 := by unfold BS.out; rw [bytesN_len]; exact hrd2
            clear hob hsb hp8
            by_cases hjn : o8.length < n
            · have hjn' : (o8.length : Int) < n := by omega
              have hc := cell_of_block HF.out.put o8.length
              rw [List.getElem?_toArray, List.getElem?_map, HPT.out o8.length hjn, HFE.out] at hc
              simp at hc
              go_wp2_with fail
              go_region_held3 (fun w' => (convert 22 9 (.slice A8 o8.length c8)).run Try.prog w' = .ok (.string ⟨o8.toArray⟩) w' ∧ (convert 22 9 (.slice A0 o8.length c0)).run Try.prog w' = .ok (.string ⟨o8.toArray⟩) w')
                (first
                  | with_reducible assumption
                  | exact GS.out _ (Keeps.refl _ _).drew'
                  | exact GS.out _ ((Keeps.refl _ _).drewN' _)
                  | exact GS.out _ (((Keeps.refl _ _).drewN' _).trans k9)
                  | exact GS.out _ ((((Keeps.refl _ _).drewN' _).trans k9).trans ((Below.keeps bel).mono (by simp))))
                (first
                  | (go_at_call 14; refine (bready_any (HBK.out _ (Keeps.refl _ _).drew') OKT.out).mono ?_; rintro e w' ⟨rfl, d9, rfl⟩)
                  | (go_at_call 10; refine (btake_any (HBK.out _ ((Keeps.refl _ _).drewN' _)) OKT.out).mono ?_; rintro e w9 ⟨y, rfl, hy, hb9, k9⟩; obtain ⟨A9, c9, rfl⟩ := own_slice hy)
                  | (go_at_call 15; refine (wakes_any _).mono ?_; rintro e w10 ⟨rfl, bel⟩))
              go_wp2_with fail
              go_ret
              exact ⟨rfl, (((HF.out.kp.mono (T := [b, mb]) (by simp)).trans (((Keeps.refl _ _).drewN' _).trans k9)).fresh (T := []) (by intro x hx hlt; have := HF.out.zb; have := HF.out.zm; simp at hx; omega)).trans (Below.keeps bel)⟩
            · have hjn' : ¬ (o8.length : Int) < n := by omega
              go_wp2_with fail
              go_region_held3 (fun w' => (convert 22 9 (.slice A8 o8.length c8)).run Try.prog w' = .ok (.string ⟨o8.toArray⟩) w' ∧ (convert 22 9 (.slice A0 o8.length c0)).run Try.prog w' = .ok (.string ⟨o8.toArray⟩) w')
                (first
                  | with_reducible assumption
                  | exact GS.out _ (Keeps.refl _ _).drew'
                  | exact GS.out _ ((Keeps.refl _ _).drewN' _)
                  | exact GS.out _ (((Keeps.refl _ _).drewN' _).trans k9)
                  | exact GS.out _ ((((Keeps.refl _ _).drewN' _).trans k9).trans ((Below.keeps bel).mono (by simp))))
                (first
                  | (go_at_call 14; refine (bready_any (HBK.out _ (Keeps.refl _ _).drew') OKT.out).mono ?_; rintro e w' ⟨rfl, d9, rfl⟩)
                  | (go_at_call 10; refine (btake_any (HBK.out _ ((Keeps.refl _ _).drewN' _)) OKT.out).mono ?_; rintro e w9 ⟨y, rfl, hy, hb9, k9⟩; obtain ⟨A9, c9, rfl⟩ := own_slice hy)
                  | (go_at_call 15; refine (wakes_any _).mono ?_; rintro e w10 ⟨rfl, bel⟩))
              go_wp2_with fail
              go_ret
              exact ⟨rfl, (((HF.out.kp.mono (T := [b, mb]) (by simp)).trans (((Keeps.refl _ _).drewN' _).trans k9)).fresh (T := []) (by intro x hx hlt; have := HF.out.zb; have := HF.out.zm; simp at hx; omega)).trans (Below.keeps bel)⟩
    · have hk1' : ¬ (k : Int) < len := by omega
      have hI := hs.inv
      have hol : o.length ≤ 600 := by have := congrArg List.length hI.out; simp at this; rw [HN.out] at this; omega
      have hrl : st.out.length ≤ 16384 := by have := BS.ready_le hI.ok; have := hI.ok.t0; have := hI.ok.r; unfold BS.out; rw [bytesN_len]; omega
      have HRD := Lib.hid (show st.out.length = st.ready from bytesN_len _ _ _)
      clear hs
      go_wp2_with fail
      refine (bready_any HS.out.bf hI.ok).mono ?_
      rintro e w3 ⟨rfl, d, rfl⟩
      go_wp2_with fail
      refine (btake_any (HS.out.bf.drewN d) hI.ok).mono ?_
      rintro e w7 ⟨x, rfl, hx, hb7, k7⟩
      have hxb := BytesV.of_own hx
      have HT := Lib.hid ((HS.out.keep (Keeps.drewN [] _ d)).took hb7 k7)
      have HX7 := Lib.hid hxb
      obtain ⟨Ax, cx, rfl⟩ := own_slice hx
      have OK0 := Lib.hid hI.ok
      clear hb7 hx hxb k7 hI
      go_wp2_with (at_builtin; refine wpList_append_bytes rfl _ _ W.heap.size 22 5 rfl Try.underlying22 Try.infoU8 u13 o.length o rfl HT.out.1 _ st.out rfl HX7.out (by omega) HT.out.2.1 ?_)
      intro v8 w8 hown8 hg8 hat8 _
      have HF := Lib.hid (HT.out.2.2 v8 w8 (by rw [List.map_append]; exact hown8) hg8 hat8)
      clear hown8 hg8 hat8 HT HX7
      obtain ⟨o8, ho8⟩ : ∃ o8, o8 = o ++ st.out := ⟨_, rfl⟩
      rw [← ho8] at HF
      obtain ⟨A8, c8, rfl⟩ := own_slice HF.out.own
      have h8n : o8.length ≤ n := by have := congrArg List.length HF.out.inv.out; simp at this; rw [HN.out] at this; omega
      have hPl : P.length = n := by rw [HF.out.inv.plen, HN.out]
      have hpt : ∀ i, i < n → P[i]? = some (decide (i < o8.length) || (AL.find (i : Int) st.take.m).isSome) := fun i hi => by
        rw [HF.out.inv.put i (by rw [HN.out]; exact hi), HF.out.inv.tk]; simp
      have hp8 := HF.out.put
      have HPT := Lib.hid hpt
      have htk8 := HF.out.inv.tk
      have hfe : AL.find ((o8.length : Nat) : Int) st.take.m = none := by
        rw [← htk8]
        have h := BS.ready_end (BS.take_ok OK0.out)
        rw [BS.take_ready OK0.out] at h
        simpa using h
      have HFE := Lib.hid hfe
      have hrd2 := BS.take_ready OK0.out
      clear hpt hfe htk8 ho8
      go_wp2_with fail
      go_loopw [23] (fun v wx => ∃ j : Nat, v = .int .i64 j ∧ j ≤ o8.length ∧ w8 = wx) (fun v _ => 700 - (intOf v).toNat)
      case atStart => exact ⟨0, rfl, by omega, rfl⟩
      case round =>
        obtain ⟨j, rfl, hj, rfl⟩ := hrel
        by_cases hj1 : j < o8.length
        · have hjn : (j : Int) < n := by omega
          have hc := cell_of_block hp8 j
          rw [List.getElem?_toArray, List.getElem?_map, HPT.out j (by omega)] at hc
          simp only [hj1, decide_true, Bool.true_or, Option.map_some] at hc
          go_wp2_with fail
          exact ⟨⟨j + 1, by simp, by omega, trivial⟩, by simp [intOf]; omega⟩
        · obtain rfl : j = o8.length := by omega
          have h8c : (o8.length : Int) ≤ c0 := by omega
          have hob : BytesV w8 (.slice A8 o8.length c8) o8 := BytesV.of_own HF.out.own
          have hsb : BytesV w8 (.slice A0 o8.length c0) o8 := by
            have h1 := HBS.out.keep0 HF.out.kp
            obtain ⟨An, cn, e1, e2, e3, e4⟩ := h1
            injection e1 with e1 e5 e6
            subst e1 e6
            refine ⟨_, _, rfl, by omega, e3, fun hp0 => ?_⟩
            obtain ⟨g, og, rfl, hc⟩ := e4 (by rw [HN.out]; omega)
            refine ⟨g, og, rfl, fun i x hx => hc i x ?_⟩
            have := HF.out.inv.out
            rw [this, List.getElem?_take] at hx
            split at hx
            · exact hx
            · cases hx
          have GS := Lib.hid (fun (X : World) (k : Keeps [b, mb] w8 X) => (⟨(hob.keepS k (fun _ g og nn cc e => by have := HF.out.sep g (by rw [e]; rfl); simp; omega)).str0 (P := Try.prog) 22 9 5 Try.underlying22 Try.underlying5 Try.underlying9, (hsb.keepS k (fun hp0 g og nn cc e => by
            injection e with e1
            obtain ⟨g', o', e2, hc⟩ := HBS.out.get (by omega)
            rw [e1] at e2
            injection e2 with e2
            injection e2 with e3 e4
            subst e3
            have hl0 : 0 < S.length := by rw [HN.out]; omega
            have := lt_of_cell (hc 0 S[0] (List.getElem?_eq_getElem hl0))
            have := HF.out.zb
            have := HF.out.zm
            simp at *
            omega)).str0 (P := Try.prog) 22 9 5 Try.underlying22 Try.underlying5 Try.underlying9⟩ :
            (convert 22 9 (.slice A8 o8.length c8)).run Try.prog X = .ok (.string ⟨o8.toArray⟩) X ∧ (convert 22 9 (.slice A0 o8.length c0)).run Try.prog X = .ok (.string ⟨o8.toArray⟩) X))
          have HBK := Lib.hid (fun (X : World) (k : Keeps [] w8 X) => HF.out.bf.keep k (by simp) (by simp))
          have OKT := Lib.hid (BS.take_ok OK0.out)
          have hrd := HRD.out
          have hol2 : st.take.out.length = 0 := by unfold BS.out; rw [bytesN_len]; exact hrd2
          clear hob hsb hp8
          by_cases hjn : o8.length < n
          · have hjn' : (o8.length : Int) < n := by omega
            have hc := cell_of_block HF.out.put o8.length
            rw [List.getElem?_toArray, List.getElem?_map, HPT.out o8.length hjn, HFE.out] at hc
            simp at hc
            go_wp2_with fail
            go_region_held3 (fun w' => (convert 22 9 (.slice A8 o8.length c8)).run Try.prog w' = .ok (.string ⟨o8.toArray⟩) w' ∧ (convert 22 9 (.slice A0 o8.length c0)).run Try.prog w' = .ok (.string ⟨o8.toArray⟩) w')
              (first
                | with_reducible assumption
                | exact GS.out _ (Keeps.refl _ _).drew'
                | exact GS.out _ ((Keeps.refl _ _).drewN' _)
                | exact GS.out _ (((Keeps.refl _ _).drewN' _).trans k9)
                | exact GS.out _ ((((Keeps.refl _ _).drewN' _).trans k9).trans ((Below.keeps bel).mono (by simp))))
              (first
                | (go_at_call 14; refine (bready_any (HBK.out _ (Keeps.refl _ _).drew') OKT.out).mono ?_; rintro e w' ⟨rfl, d9, rfl⟩)
                | (go_at_call 10; refine (btake_any (HBK.out _ ((Keeps.refl _ _).drewN' _)) OKT.out).mono ?_; rintro e w9 ⟨y, rfl, hy, hb9, k9⟩; obtain ⟨A9, c9, rfl⟩ := own_slice hy)
                | (go_at_call 15; refine (wakes_any _).mono ?_; rintro e w10 ⟨rfl, bel⟩))
            go_wp2_with fail
            go_ret
            exact ⟨rfl, (((HF.out.kp.mono (T := [b, mb]) (by simp)).trans (((Keeps.refl _ _).drewN' _).trans k9)).fresh (T := []) (by intro x hx hlt; have := HF.out.zb; have := HF.out.zm; simp at hx; omega)).trans (Below.keeps bel)⟩
          · have hjn' : ¬ (o8.length : Int) < n := by omega
            go_wp2_with fail
            go_region_held3 (fun w' => (convert 22 9 (.slice A8 o8.length c8)).run Try.prog w' = .ok (.string ⟨o8.toArray⟩) w' ∧ (convert 22 9 (.slice A0 o8.length c0)).run Try.prog w' = .ok (.string ⟨o8.toArray⟩) w')
              (first
                | with_reducible assumption
                | exact GS.out _ (Keeps.refl _ _).drew'
                | exact GS.out _ ((Keeps.refl _ _).drewN' _)
                | exact GS.out _ (((Keeps.refl _ _).drewN' _).trans k9)
                | exact GS.out _ ((((Keeps.refl _ _).drewN' _).trans k9).trans ((Below.keeps bel).mono (by simp))))
              (first
                | (go_at_call 14; refine (bready_any (HBK.out _ (Keeps.refl _ _).drew') OKT.out).mono ?_; rintro e w' ⟨rfl, d9, rfl⟩)
                | (go_at_call 10; refine (btake_any (HBK.out _ ((Keeps.refl _ _).drewN' _)) OKT.out).mono ?_; rintro e w9 ⟨y, rfl, hy, hb9, k9⟩; obtain ⟨A9, c9, rfl⟩ := own_slice hy)
                | (go_at_call 15; refine (wakes_any _).mono ?_; rintro e w10 ⟨rfl, bel⟩))
            go_wp2_with fail
            go_ret
            exact ⟨rfl, (((HF.out.kp.mono (T := [b, mb]) (by simp)).trans (((Keeps.refl _ _).drewN' _).trans k9)).fresh (T := []) (by intro x hx hlt; have := HF.out.zb; have := HF.out.zm; simp at hx; omega)).trans (Below.keeps bel)⟩

theorem reasmStream_typed {H : Type} (enc : TypeId × Value → H) (W : World) (base : Nat) {v0 v1 v2 v3 : Value} {d0 d1 d2 d3 : DataW H} {p0 p1 p2 p3 : List MemPlace}
    (o0 : Value.okWide Try.prog W .any base 22 v0) (o1 : Value.okWide Try.prog W .any base 23 v1) (o2 : Value.okWide Try.prog W .any base 24 v2) (o3 : Value.okWide Try.prog W .any base 25 v3)
    (h0 : DataW.Trod enc Try.prog W 0 (fun _ => true) true 22 v0 d0 p0) (h1 : DataW.Trod enc Try.prog W 0 (fun _ => true) true 23 v1 d1 p1) (h2 : DataW.Trod enc Try.prog W 0 (fun _ => true) true 24 v2 d2 p2) (h3 : DataW.Trod enc Try.prog W 0 (fun _ => true) true 25 v3 d3 p3) :
    Calls Try.prog 3 #[v0, v1, v2, v3] W fun e W' => e = .returned (.bool true) ∧ Below W.heap.size W W' := by
  obtain ⟨A, n, c, l, rfl, hb⟩ := open_bytes o0 h0
  obtain ⟨f, rfl, f0, f1⟩ := open_u32 o1 h1
  obtain ⟨r, rfl, r0, r1⟩ := open_u16 o2 h2
  obtain ⟨q, len, cap, rfl, hl, hp⟩ := open_pieces o3 h3
  exact (stream_walk W f r ⟨f0, f1⟩ r0 r1 A n c l hb q len cap hl hp).mono fun e W' ⟨he, k⟩ => ⟨he, k.below (Nat.le_refl _) (by simp)⟩
end Go.Proofs.Ytknlcieceghaiaa
