/-
  The walk of seq.Cut: the part of bytes that lies in a stretch. Condition: numbers are in the ranges of their kinds; the stretch is shorter than 2^31; at most 2^30 bytes.
-/
import Derived.Test.YtakgohocimlagaaGreatSeq
import Derived.Laws.CopyOwn
import Derived.Deep.DeepCutAuto
namespace Go.Proofs.YtakgohocimlagaaGreat
open Go.RowKit
set_option linter.unusedVariables false
set_option linter.unusedSimpArgs false

def cutA (s frm : Int) : Int := max (-(aheadI frm s)) 0
def cutB (s : Int) (n : Nat) (frm long : Int) : Int := min (long - aheadI frm s) n
def cutI (s : Int) (l : List UInt8) (frm long : Int) : Int × List UInt8 :=
  if cutA s frm ≥ cutB s l.length frm long then (frm, []) else (addI s (cutA s frm), (l.drop (cutA s frm).toNat).take ((cutB s l.length frm long).toNat - (cutA s frm).toNat))

theorem BytesV.block {w : World} {g n : Nat} {t : TypeId} {z : Nat × Nat} {l : List UInt8} (h : w.heap[g]? = some (.cells (l.map u8V).toArray t z)) (hn : l.length = n) (hm : n ≤ maxLen) : BytesV w (.slice (some ⟨g, 0, none⟩) n n) l := by
  subst hn
  refine ⟨_, _, rfl, Nat.le_refl _, hm, fun hp => ⟨g, 0, rfl, fun i x hx => ?_⟩⟩
  rw [Nat.zero_add]
  simp [World.cell?, h, hx]

/-- make([]byte, n). -/
theorem wpList_make_bytes {P : Program} {w : World} {ops : Array Oper} {rest : List Oper} {o : Oper} {a : Act} {Q : Exit → Act → World → Prop}
    (hg : o.guard = none) (l c : Operand) (t : TypeId) (hop : o.op = Op.makeSlice t l c) (e : TypeId) (h1 : P.underlying t = some (.slice e)) (hi : (P.info? e).map (fun i => (i.zero, i.size, i.bytes)) = some (some (.int .u8 0), 1, 1))
    (kl kc : IntKind) (L C : Int) (n : Nat) (hl : a.eval l = .int kl L) (hc : a.eval c = .int kc C) (hL : L = (n : Int)) (hC : C = (n : Int)) (b2 : n ≤ 140737488355328)
    (hK : ∀ w' cur, Hid (w'.heap[w.heap.size]? = some (.cells cur e (0, 0)) ∧ cur.size = n) → Keeps [] w w' → wpList P ops Q rest (a.put o.dst (.slice (some ⟨w.heap.size, 0, none⟩) n n)) w') :
    wpList P ops Q (o :: rest) a w := by
  obtain ⟨i0, hi0, hz0, hz1, hz2⟩ := info_parts hi
  refine wpList_make_full w hg l c t hop w.heap.size e i0 (.int .u8 0) 1 h1 hi0 hz0 hz1 kl kc L C n hl hc hL hC (by rw [hz2]; omega) (by simp only [maxLen]; omega) (Nat.le_refl _) ?_
  intro w' hown hgr
  have hk := Keeps.grown0 hgr
  rcases hown.2 with ⟨h0, _⟩ | ⟨g, cap, cur, he, _, hh, _, _, hs, _⟩
  · cases h0
  · injection he with e1 e2 e3
    injection e1 with e1
    injection e1 with e1
    subst e1 e3
    exact hK w' cur (Lib.hid ⟨hh, by rw [hs, Nat.mul_one]⟩) hk
/-- copy(a new row, bytes), as many. -/
theorem wpList_copy_bytes {P : Program} {w : World} {ops : Array Oper} {rest : List Oper} {o : Oper} {a : Act} {Q : Exit → Act → World → Prop} (hgd : o.guard = none) (d s : Operand) (dT sT : TypeId)
    (ho : o.op = .call { callee := .builtin .copy, args := #[d, s], argTypes := #[dT, sT] }) (e : TypeId) (hu : P.underlying dT = some (.slice e)) (hi : (P.info? e).map (fun i => (i.zero, i.size, i.bytes)) = some (some (.int .u8 0), 1, 1))
    (g n : Nat) (hd : a.eval d = .slice (some ⟨g, 0, none⟩) n n) (y : Value) (l : List UInt8) (hs : a.eval s = y) (hy : BytesV w y l) (hln : l.length = n) (hm : n ≤ maxLen)
    (cur : Array Value) (hg : w.heap[g]? = some (.cells cur e (0, 0)) ∧ cur.size = n) (B : Nat) (hBg : B ≤ g)
    (h : ∀ w', BytesV w' (.slice (some ⟨g, 0, none⟩) n n) l → Below B w w' → wpList P ops Q rest (a.put o.dst (goInt n)) w') :
    wpList P ops Q (o :: rest) a w := by
  obtain ⟨i0, hi0, hz0, hz1, hz2⟩ := info_parts hi
  obtain ⟨A, c, rfl, h1, h2, h3⟩ := hy
  obtain ⟨hgc, hgs⟩ := hg
  refine wpList_copy_splice hgd d s dT sT ho e hu (by rw [hi0]; simp [hz1]) (some ⟨g, 0, none⟩) A n n l.length c hd hs g 0 cur.toList e (by simpa using hgc) (l.map u8V) (by rw [List.length_map, hln]; exact (Nat.min_self n).symm) ?_ (by simp [hgs, hln]) (u8_one l) B w (Below.refl _ _) hBg ?_
  · intro hp
    refine ⟨rfl, ?_⟩
    obtain ⟨g', o', rfl, hc⟩ := h3 (by simpa using hp)
    refine ⟨_, rfl, fun j v hv => ?_⟩
    rw [List.getElem?_map] at hv
    obtain ⟨x, hx, rfl⟩ := Option.map_eq_some_iff.1 hv
    have e0 : (⟨g', o', none⟩ : Addr).add j = ⟨g', o' + j, none⟩ := by unfold Addr.add; split <;> simp_all
    rw [e0]
    exact hc j x hx
  · intro w' hw' hb
    have hw := hw'.out
    have hsp : splice cur.toList 0 (l.map u8V) = l.map u8V := by simp [splice, hgs, hln]
    rw [hsp] at hw
    have := h w' (BytesV.block hw hln hm) hb
    rw [List.length_map, hln]
    exact this

theorem cut_none (w : World) (s : Int) (A : Option Addr) (n c : Nat) (frm long : Int) (hs : U32 s) (hf : U32 frm) (hl0 : 0 ≤ long) (hl1 : long ≤ 2147483647) (hn : n ≤ 1073741824) (h : cutA s frm ≥ cutB s n frm long) :
    Calls Tryz.prog 90 #[.int .u32 s, .slice A n c, .int .u32 frm, .int .u32 long] w fun e w' => e = .returned (.tuple #[.int .u32 frm, .slice none 0 0]) ∧ w = w' := by
  obtain ⟨a0, a1⟩ := aheadI_bd frm s
  unfold cutA cutB at h
  have ca := ahead_any w frm s hf hs
  generalize aheadI frm s = off at *
  have CA := Lib.hid ca
  clear ca hs hf
  rcases Int.lt_or_le 0 off with h1 | h1
  all_goals
    rcases Int.lt_or_le n (long - off) with h2 | h2
  · have hd : (n : Int) ≤ 0 := by omega
    clear h
    obtain rfl : n = 0 := by omega
    clear hd
    go_enter Tryz.func90, Tryz.ntmps90
    go_wp2_with fail
    refine CA.out.mono ?_
    rintro e w1 ⟨rfl, rfl⟩
    go_wp2_with fail
    go_ret2
    exact ⟨rfl, rfl⟩
  · have hd : long - off ≤ 0 := by omega
    clear h
    go_enter Tryz.func90, Tryz.ntmps90
    go_wp2_with fail
    refine CA.out.mono ?_
    rintro e w1 ⟨rfl, rfl⟩
    go_wp2_with fail
    go_ret2
    exact ⟨rfl, rfl⟩
  · have hd : (n : Int) ≤ -off := by omega
    clear h
    go_enter Tryz.func90, Tryz.ntmps90
    go_wp2_with fail
    refine CA.out.mono ?_
    rintro e w1 ⟨rfl, rfl⟩
    go_wp2_with fail
    go_ret2
    exact ⟨rfl, rfl⟩
  · have hd : long - off ≤ -off := by omega
    clear h
    go_enter Tryz.func90, Tryz.ntmps90
    go_wp2_with fail
    refine CA.out.mono ?_
    rintro e w1 ⟨rfl, rfl⟩
    go_wp2_with fail
    go_ret2
    exact ⟨rfl, rfl⟩


set_option maxRecDepth 100000 in
set_option maxHeartbeats 1000000 in
theorem cut_some (w : World) (s : Int) (g o n c : Nat) (l : List UInt8) (frm long : Int) (h : BytesV w (.slice (some ⟨g, o, none⟩) n c) l) (hs : U32 s) (hf : U32 frm) (hl0 : 0 ≤ long) (hl1 : long ≤ 2147483647) (hn : n ≤ 1073741824) (hlt : cutA s frm < cutB s n frm long) :
    Calls Tryz.prog 90 #[.int .u32 s, .slice (some ⟨g, o, none⟩) n c, .int .u32 frm, .int .u32 long] w fun e w' => ∃ v, e = .returned (.tuple #[.int .u32 (cutI s l frm long).1, v]) ∧ BytesV w' v (cutI s l frm long).2 ∧ Keeps [] w w' := by
  obtain ⟨a0, a1⟩ := aheadI_bd frm s
  obtain ⟨hnl, hnc, hcm⟩ := h.form
  have fin : cutI s l frm long = (addI s (cutA s frm), (l.drop (cutA s frm).toNat).take ((cutB s n frm long).toNat - (cutA s frm).toNat)) := by unfold cutI; rw [← hnl, if_neg (by omega)]
  have F := Lib.hid fin
  clear fin
  have ca := ahead_any w frm s hf hs
  have cd := fun W x => add_any W s x hs
  have HS := Lib.hid hs
  have HB := Lib.hid h
  have HNL := Lib.hid hnl
  clear hs hf h hnl
  unfold cutA cutB at F hlt
  generalize aheadI frm s = off at *
  have CA := Lib.hid ca
  have CD := Lib.hid cd
  clear ca cd
  simp only [maxLen] at hcm
  rcases Int.lt_or_le 0 off with h1 | h1
  all_goals
    rcases Int.lt_or_le n (long - off) with h2 | h2
  · have ha : max (-off) 0 = 0 := by omega
    have hb : min (long - off) (n : Int) = n := by omega
    rw [ha, hb] at F
    clear ha hb
    have hd : (0 : Int) < n := by omega
    clear hlt
    go_enter Tryz.func90, Tryz.ntmps90
    go_wp2_with fail
    refine CA.out.mono ?_
    rintro e w1 ⟨rfl, rfl⟩
    go_wp2_with (first
      | (at_make; refine wpList_make_bytes rfl (.tmp 40) (.tmp 40) 37 rfl 5 Tryz.underlying37 Tryz.infoU8 .i64 .i64 _ _ (n) rfl rfl (by omega) (by omega) (by omega) ?_; intro w2 cur hcur k2)
      | (refine wpList_copy_bytes rfl (.tmp 42) (.tmp 43) 37 37 rfl 5 Tryz.underlying37 Tryz.infoU8 w.heap.size (n) rfl _ ((l.drop (0)).take (n)) rfl ((HB.out.sub (lo := 0) (hi := n) (by omega) (by omega) _ _ (fun _ => rfl) (by omega) (by simp only [maxLen]; omega)).keep0 k2) (by simp; have := HNL.out; omega) (by simp [maxLen]; omega) cur hcur.out w.heap.size (Nat.le_refl _) ?_; intro w3 b3 bel3)
      | (go_at_call 60; refine (CD.out _ _).mono ?_; rintro e w4 ⟨rfl, rfl⟩))
    go_ret2
    rw [F.out]
    exact ⟨_, rfl, b3, k2.behind bel3⟩
  · obtain ⟨K, hK⟩ : ∃ K : Nat, long = K + off := ⟨(long - off).toNat, by omega⟩
    subst hK
    have ha : max (-off) 0 = 0 := by omega
    have hb : min ((K : Int) + off - off) (n : Int) = K := by omega
    rw [ha, hb] at F
    clear ha hb
    have hkn : K ≤ n := by omega
    have hd : (0 : Int) < K := by omega
    clear hlt
    go_enter Tryz.func90, Tryz.ntmps90
    go_wp2_with fail
    refine CA.out.mono ?_
    rintro e w1 ⟨rfl, rfl⟩
    go_wp2_with (first
      | (at_make; refine wpList_make_bytes rfl (.tmp 40) (.tmp 40) 37 rfl 5 Tryz.underlying37 Tryz.infoU8 .i64 .i64 _ _ (K) rfl rfl (by omega) (by omega) (by omega) ?_; intro w2 cur hcur k2)
      | (refine wpList_copy_bytes rfl (.tmp 42) (.tmp 43) 37 37 rfl 5 Tryz.underlying37 Tryz.infoU8 w.heap.size (K) rfl _ ((l.drop (0)).take (K)) rfl ((HB.out.sub (lo := 0) (hi := K) (by omega) (by omega) _ _ (fun _ => rfl) (by omega) (by simp only [maxLen]; omega)).keep0 k2) (by simp; have := HNL.out; omega) (by simp [maxLen]; omega) cur hcur.out w.heap.size (Nat.le_refl _) ?_; intro w3 b3 bel3)
      | (go_at_call 60; refine (CD.out _ _).mono ?_; rintro e w4 ⟨rfl, rfl⟩))
    go_ret2
    rw [F.out]
    exact ⟨_, rfl, b3, k2.behind bel3⟩
  · obtain ⟨J, hJ⟩ : ∃ J : Nat, off = -J := ⟨(-off).toNat, by omega⟩
    subst hJ
    have ha : max (- -(J : Int)) 0 = J := by omega
    have hb : min (long - -(J : Int)) (n : Int) = n := by omega
    rw [ha, hb] at F
    clear ha hb
    have hd : (J : Int) < n := by omega
    clear hlt
    go_enter Tryz.func90, Tryz.ntmps90
    go_wp2_with fail
    refine CA.out.mono ?_
    rintro e w1 ⟨rfl, rfl⟩
    go_wp2_with (first
      | (at_make; refine wpList_make_bytes rfl (.tmp 40) (.tmp 40) 37 rfl 5 Tryz.underlying37 Tryz.infoU8 .i64 .i64 _ _ (n - J) rfl rfl (by omega) (by omega) (by omega) ?_; intro w2 cur hcur k2)
      | (refine wpList_copy_bytes rfl (.tmp 42) (.tmp 43) 37 37 rfl 5 Tryz.underlying37 Tryz.infoU8 w.heap.size (n - J) rfl _ ((l.drop (J)).take (n - J)) rfl ((HB.out.sub (lo := J) (hi := n) (by omega) (by omega) _ _ (fun _ => rfl) (by omega) (by simp only [maxLen]; omega)).keep0 k2) (by simp; have := HNL.out; omega) (by simp [maxLen]; omega) cur hcur.out w.heap.size (Nat.le_refl _) ?_; intro w3 b3 bel3)
      | (go_at_call 60; refine (CD.out _ _).mono ?_; rintro e w4 ⟨rfl, rfl⟩))
    go_ret2
    rw [F.out]
    exact ⟨_, rfl, b3, k2.behind bel3⟩
  · obtain ⟨J, hJ⟩ : ∃ J : Nat, off = -J := ⟨(-off).toNat, by omega⟩
    subst hJ
    obtain ⟨K, hK⟩ : ∃ K : Nat, long = K - J := ⟨(long + J).toNat, by omega⟩
    subst hK
    have ha : max (- -(J : Int)) 0 = J := by omega
    have hb : min ((K : Int) - J - -(J : Int)) (n : Int) = K := by omega
    rw [ha, hb] at F
    clear ha hb
    have hkn : K ≤ n := by omega
    have hd : (J : Int) < K := by omega
    clear hlt
    go_enter Tryz.func90, Tryz.ntmps90
    go_wp2_with fail
    refine CA.out.mono ?_
    rintro e w1 ⟨rfl, rfl⟩
    go_wp2_with (first
      | (at_make; refine wpList_make_bytes rfl (.tmp 40) (.tmp 40) 37 rfl 5 Tryz.underlying37 Tryz.infoU8 .i64 .i64 _ _ (K - J) rfl rfl (by omega) (by omega) (by omega) ?_; intro w2 cur hcur k2)
      | (refine wpList_copy_bytes rfl (.tmp 42) (.tmp 43) 37 37 rfl 5 Tryz.underlying37 Tryz.infoU8 w.heap.size (K - J) rfl _ ((l.drop (J)).take (K - J)) rfl ((HB.out.sub (lo := J) (hi := K) (by omega) (by omega) _ _ (fun _ => rfl) (by omega) (by simp only [maxLen]; omega)).keep0 k2) (by simp; have := HNL.out; omega) (by simp [maxLen]; omega) cur hcur.out w.heap.size (Nat.le_refl _) ?_; intro w3 b3 bel3)
      | (go_at_call 60; refine (CD.out _ _).mono ?_; rintro e w4 ⟨rfl, rfl⟩))
    go_ret2
    rw [F.out]
    exact ⟨_, rfl, b3, k2.behind bel3⟩

/-- seq.Cut, whatever the bytes. -/
theorem cut_any (w : World) (s : Int) (A : Option Addr) (n c : Nat) (l : List UInt8) (frm long : Int) (h : BytesV w (.slice A n c) l) (hs : U32 s) (hf : U32 frm) (hl0 : 0 ≤ long) (hl1 : long ≤ 2147483647) (hn : n ≤ 1073741824) :
    Calls Tryz.prog 90 #[.int .u32 s, .slice A n c, .int .u32 frm, .int .u32 long] w fun e w' => ∃ v, e = .returned (.tuple #[.int .u32 (cutI s l frm long).1, v]) ∧ BytesV w' v (cutI s l frm long).2 ∧ Keeps [] w w' := by
  by_cases hlt : cutA s frm ≥ cutB s n frm long
  · refine (cut_none w s A n c frm long hs hf hl0 hl1 hn hlt).mono ?_
    rintro e w' ⟨rfl, rfl⟩
    have fin : cutI s l frm long = (frm, []) := by unfold cutI; rw [← h.form.1, if_pos hlt]
    rw [fin]
    exact ⟨_, rfl, BytesV.nil _, Keeps.refl _ _⟩
  · have hp : 0 < n := by
      obtain ⟨a0, a1⟩ := aheadI_bd frm s
      unfold cutA cutB at hlt
      omega
    obtain ⟨g, o, rfl, _⟩ := h.get hp
    exact cut_some w s g o n c l frm long h hs hf hl0 hl1 hn (by omega)
end Go.Proofs.YtakgohocimlagaaGreat
