/-
  The walk of maps.Values' iterator at a table's rules. Condition: no name twice, no name long.
-/
import Derived.Test.YtbmkdnkiojapbaaDoorPolY
namespace Go.Proofs.YtbmkdnkiojapbaaDoor
open Go.RowKit Go.Maps Go.Sort Go.Shelf
open Go.ChangeMaps Go.MapKept
set_option linter.unusedVariables false
set_option linter.unusedSimpArgs false
attribute [local go_sem] Oper.semAt_some

theorem key_unique {T : List (ByteArray × PR)} (hnd : (SL.keys T).Nodup) {p q : ByteArray × PR} (hp : p ∈ T) (hq : q ∈ T) (h : p.1 = q.1) : p = q := by
  induction T with
  | nil => simp at hp
  | cons a t ih =>
    rw [SL.keys_cons, List.nodup_cons] at hnd
    rcases List.mem_cons.1 hp with hp' | hp'
    · subst hp'
      rcases List.mem_cons.1 hq with hq' | hq'
      · exact hq'.symm
      · exact absurd (by rw [h]; exact List.mem_map_of_mem hq') hnd.1
    · rcases List.mem_cons.1 hq with hq' | hq'
      · subst hq'
        exact absurd (by rw [← h]; exact List.mem_map_of_mem hp') hnd.1
      · exact ih hnd.2 hp' hq'
theorem perm_of_keys {ps T : List (ByteArray × PR)} (h1 : (ps.map fun p => p.1.data.toList).Perm ((SL.keys T).map fun k => k.data.toList)) (h2 : ∀ p ∈ ps, p ∈ T) (hnd : (SL.keys T).Nodup) : ps.Perm T := by
  have hn2 : ((SL.keys T).map fun k => k.data.toList).Nodup := List.pairwise_map.2 (hnd.imp fun h e => h (ba_ext e))
  have hn1 : (ps.map fun p => p.1.data.toList).Nodup := h1.nodup_iff.2 hn2
  have hp : ps.Nodup := (List.pairwise_map.1 hn1).imp fun h e => h (by rw [e])
  have ht : T.Nodup := (List.pairwise_map.1 hnd).imp fun h e => h (by rw [e])
  refine (List.perm_ext_iff_of_nodup hp ht).2 fun a => ⟨h2 a, fun ha => ?_⟩
  have hm : a.1.data.toList ∈ ps.map fun p => p.1.data.toList := by
    rw [h1.mem_iff]
    exact List.mem_map_of_mem (List.mem_map_of_mem ha)
  obtain ⟨q, hq, e⟩ := List.mem_map.1 hm
  have := key_unique hnd (h2 q hq) ha (ba_ext e)
  rw [← this]; exact hq
set_option maxRecDepth 100000 in
set_option maxHeartbeats 4000000 in
theorem values1_in (F : Fence) (n : Nat) (h8 : F.fn 63) (hro : F.round = none) (hn : 1 ≤ n) (l Bm b : Nat) (T : List (ByteArray × PR)) (J Jx : List PR → World → Prop)
    (hY : ∀ pre x W, J pre W → pre.length < T.length → YieldAt F (n - 1) Tryd.prog l #[encPR x] W fun e W' =>
      (e = .returned (.bool true) ∧ J (pre ++ [x]) W' ∧ KeepsWalks W W') ∨ (e = .returned (.bool false) ∧ Jx (pre ++ [x]) W'))
    (W : World) (hJ : AbidesFrom W.heap.size J) (hm : W.cell? ⟨Bm, 0, none⟩ = some (.map (some b))) (ht : SMapAt W b encPR T) (hnd : (SL.keys T).Nodup) (hs : ∀ x ∈ T, x.1.size ≤ 1000) (hl : T.length ≤ 100000) (h0 : J [] W) :
    CallsIn F n Tryd.prog 63 #[.func (.yield l) #[] #[], .pointer (some ⟨Bm, 0, none⟩)] W fun e W' => (∃ v, e = .returned v) ∧
      ((∃ xs, (∃ ps : List (ByteArray × PR), ps.Perm T ∧ xs = ps.map (·.2)) ∧ J xs W') ∨ (∃ pre, True ∧ Jx pre W')) := by
  have hown := owns_table ht hnd hs hl
  obtain ⟨D0, hD⟩ : ∃ D0, (DataW.map ((T.map litOf).foldr DataW.insert []) : DataW Value) = D0 := ⟨_, rfl⟩
  have hsize : Maps.size D0 = T.length := by rw [← hD]; simp only [Maps.size]; rw [(vfoldr_perm _).length_eq, List.length_map]
  have hkeys : (strKeys D0).Perm ((SL.keys T).map fun k => k.data.toList) := by
    rw [← hD]
    simp only [strKeys]
    have := (vfoldr_perm (T.map litOf)).map fun p => strOf p.1
    refine this.trans ?_
    rw [List.map_map]
    unfold SL.keys
    rw [List.map_map]
    exact List.Perm.refl _
  have hmem : ∀ (x : List UInt8) (c : Value), (∀ zd, D0.atKey (.string x) zd = .held c) → ∃ r, (⟨x.toArray⟩, r) ∈ T ∧ c = encPR r := fun x c h => dat_mem (by rw [hD]; exact h)
  rw [hD] at hown
  have HSZ := Lib.hid hsize
  have HKEYS := Lib.hid hkeys
  have HMEM := Lib.hid hmem
  have HND := Lib.hid hnd
  clear hD hsize hkeys hmem hs hl ht hnd
  refine callsIn_of_wp Tryd.func63 rfl h8 ?_ hro
  simp only [Tryd.ntmps63, List.size_toArray, List.length_cons, List.length_nil, Nat.reduceAdd, Nat.reduceSub, Array.replicate_succ, Array.replicate_zero, List.push_toArray, List.append_toArray, List.nil_append, List.cons_append]
  gi_wp2_with (first
    | (gi_at_range; refine wpListIn_range_own _ rfl _ 67 rfl 9 35 (string_keyed Tryd.underlying9) Tryd.underlying67 _ b T.length _ rfl hown ?_; intro w0 hrg0 hg0 hs0)
    | gi_in)
  go_frame
  gi_loopw [4] (fun _ wr => ∃ (left : Lit → Bool) (cnt : Nat) (ps : List (ByteArray × PR)), wr.ranges Tryd.prog 9 heldR b W.heap.size T.length D0 left cnt ∧ ps.length + cnt ≤ Maps.size D0 ∧ Hid (Collected D0 left (ps.map (fun p => p.1.data.toList)) ∧ ∀ p ∈ ps, p ∈ T) ∧ J (ps.map (·.2)) wr)
    (fun _ wr => wr.rangeLeft b W.heap.size)
  case atStart =>
    exact ⟨_, _, [], hrg0, by simp, Lib.hid ⟨Collected.start D0, by simp⟩, hJ [] W w0 none h0 hg0 (fun r e => by cases e)⟩
  case round =>
    obtain ⟨left, cnt, ps, hrg, hcs, HC, hJs⟩ := hrel
    gi_wp2_with (first
      | (gi_at_next; refine wpListIn_next_ranges _ rfl _ rfl 9 (string_keyed Tryd.underlying9) heldR encStr id (fun key kl hk => by obtain ⟨x, hx, _⟩ := Maps.keyOf_str Tryd.underlying9 hk; exact ⟨x, hx⟩) (fun v y hv => ⟨v, rfl⟩) b W.heap.size T.length _ _ _ rfl hrg ?_ ?_)
      | gi_in)
    · -- nothing is left
      intro hc0 hl0
      have hperm := HC.out.1.perm hown (string_keyed Tryd.underlying9) Tryd.underlying9 hl0
      have HPERM := Lib.hid (perm_of_keys (hperm.trans HKEYS.out) HC.out.2 HND.out)
      clear hperm
      gi_wp2
      go_end0
      exact ⟨⟨_, rfl⟩, .inl ⟨_, ⟨ps, HPERM.out, rfl⟩, hJs⟩⟩
    · -- an entry has come
      intro x c kl yd yp w2 cnt2 hkey hlk hv hat hrg2 hlt hg2 hs2 hen
      obtain ⟨x', ex, rfl, _⟩ := Maps.keyOf_str Tryd.underlying9 hkey
      obtain rfl : x = x' := encStr_inj ex
      have hyd : yd = .held c := by
        have : heldR c = some (yd, yp) := hv
        unfold heldR at this
        injection this with this
        exact (Prod.mk.inj this).1.symm
      subst hyd
      obtain ⟨r, hrT, hc⟩ := HMEM.out x c hat
      subst hc
      have hJ2 : J (ps.map (·.2)) w2 := hJ _ wr w2 (some W.heap.size) hJs hg2 (fun r e => by cases e; exact ⟨Nat.le_refl _, hrg.iter_walk⟩)
      have HC2 := Lib.hid (show Collected D0 (fun z => left z && !z.sameKey (.string x)) ((ps ++ [((⟨x.toArray⟩ : ByteArray), r)]).map (fun p : ByteArray × PR => p.1.data.toList)) ∧ ∀ p ∈ ps ++ [((⟨x.toArray⟩ : ByteArray), r)], p ∈ T from
        ⟨by simpa using HC.out.1.step hlk hat, fun p hp => (List.mem_append.1 hp).elim (HC.out.2 p) (fun e => by simp at e; subst e; exact hrT)⟩)
      obtain ⟨rn, rd', ra, rp⟩ := r
      have HJ2 := Lib.hid hJ2
      have HRG2 := Lib.hid hrg2
      clear hs2 hg2 hrT hJ2 hkey ex hv hat
      have HJ3 := Lib.hid (hJ _ w2 (w2.alloc (.cells #[.string rn, .bool rd', .int .u32 ra, .int .u16 rp] 35)) none HJ2.out (World.grownBy_alloc w2 _ none) (fun r e => by cases e))
      obtain ⟨fn, tmps, assign, body, hy, hR⟩ := hY (ps.map (·.2)) ⟨rn, rd', ra, rp⟩ _ HJ3.out (by have := HSZ.out; rw [List.length_map]; omega)
      have HRM := Lib.hid hR
      unfold encPR at hen hy
      clear hR
      gi_wp2
      refine HRM.out.mono ?_
      rintro e W3 (⟨rfl, hJ3, hk3⟩ | ⟨rfl, hJx3⟩)
      · have hrg3 := HRG2.out.of_walks ((KeepsWalks.alloc w2 _).trans hk3)
        clear hy hen
        gi_wp2
        go_roundw
        case rel => exact ⟨_, cnt2, ps ++ [(⟨x.toArray⟩, ⟨rn, rd', ra, rp⟩)], hrg3, by simp; omega, HC2, by simpa using hJ3⟩
        case measure => rw [hrg3.left_eq, hrg.left_eq]; exact hlt
      · clear hy hen
        gi_wp2
        refine bodyPost_ret (results_none rfl _ _ _) rfl ?_
        exact ⟨⟨_, rfl⟩, .inr ⟨_, trivial, hJx3⟩⟩
theorem values1_stops (F : Fence) (n : Nat) (h8 : F.fn 63) (hro : F.round = none) (hn : 1 ≤ n) (Bm b : Nat) (T : List (ByteArray × PR)) (w : World) (hBm : Bm < w.heap.size)
    (hm : w.cell? ⟨Bm, 0, none⟩ = some (.map (some b))) (ht : SMapAt w b encPR T) (hnd : (SL.keys T).Nodup) (hs : ∀ x ∈ T, x.1.size ≤ 1000) (hl : T.length ≤ 100000) :
    SeqStopsK F n Tryd.prog 63 #[.pointer (some ⟨Bm, 0, none⟩)] (fun x : PR => #[encPR x]) KeepsWalks (fun xs => ∃ ps : List (ByteArray × PR), ps.Perm T ∧ xs = ps.map (·.2)) (fun _ => True) T.length w := fun l J Jx W hW hJ _ hY h0 =>
  values1_in F n h8 hro hn l Bm b T J Jx hY W hJ ((hW.cell (p := ⟨Bm, 0, none⟩) hBm).trans hm) (ht.of_heap (hW.block b ht.lt)) hnd hs hl h0
theorem values_any (w : World) (mb : Nat) : Calls Tryd.prog 40 #[.map (some mb)] w fun e w' => e = .returned (.func (.func 63) #[] #[.pointer (some ⟨w.heap.size, 0, none⟩)]) ∧ w' = w.alloc (.cells #[.map (some mb)] 67) := by
  go_enter Tryd.func40, Tryd.ntmps40
  go_wp2_with fail
  go_ret
  exact ⟨rfl, rfl⟩
end Go.Proofs.YtbmkdnkiojapbaaDoor
