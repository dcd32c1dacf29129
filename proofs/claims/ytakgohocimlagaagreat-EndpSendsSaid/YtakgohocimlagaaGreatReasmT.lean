/-
  The walks of package reasm (3): Take. Condition: the buffer's numbers are in the ranges of their kinds.
-/
import Derived.Test.YtakgohocimlagaaGreatReasmV
import Derived.Deep.AppendLies
namespace Go.Proofs.YtakgohocimlagaaGreat
open Go.RowKit
set_option linter.unusedVariables false
set_option linter.unusedSimpArgs false

/-- k, k + 1, .., n of them, deleted in their order -/
def delN (m : List (Int × UInt8)) (k : Int) : Nat → List (Int × UInt8)
  | 0 => m
  | n + 1 => AL.del (k + n) (delN m k n)
theorem delN_nd {m : List (Int × UInt8)} (hn : (AL.keys m).Nodup) (k : Int) : ∀ n, (AL.keys (delN m k n)).Nodup
  | 0 => hn
  | n + 1 => AL.nodup_del _ (delN_nd hn k n)
theorem delN_find {m : List (Int × UInt8)} (hn : (AL.keys m).Nodup) (k j : Int) : ∀ n : Nat, AL.find j (delN m k n) = if k ≤ j ∧ j < k + n then none else AL.find j m
  | 0 => by simp only [delN]; rw [if_neg (by omega)]
  | n + 1 => by
    simp only [delN]
    rw [AL.find_del _ _ (delN_nd hn k n), delN_find hn k j n]
    by_cases h1 : j = k + n
    · rw [if_pos h1, if_pos (by omega)]
    · rw [if_neg h1]
      by_cases h2 : k ≤ j ∧ j < k + n
      · rw [if_pos h2, if_pos (by omega)]
      · rw [if_neg h2, if_neg (by omega)]
theorem delN_keys {m : List (Int × UInt8)} (hn : (AL.keys m).Nodup) (k : Int) (n : Nat) {j : Int} (h : j ∈ AL.keys (delN m k n)) : j ∈ AL.keys m ∧ ¬ (k ≤ j ∧ j < k + n) := by
  have h1 : AL.find j (delN m k n) ≠ none := fun e => (AL.find_none.1 e) h
  rw [delN_find hn] at h1
  split at h1
  · exact absurd rfl h1
  · rename_i h2
    refine ⟨?_, h2⟩
    by_cases h3 : j ∈ AL.keys m
    · exact h3
    · exact absurd (AL.find_none.2 h3) h1
/-- the n bytes from k on -/
def bytesN (m : List (Int × UInt8)) (k : Int) (n : Nat) : List UInt8 := (List.range n).map fun i => (AL.find (k + (i : Nat)) m).getD 0
theorem bytesN_succ (m : List (Int × UInt8)) (k : Int) (n : Nat) : bytesN m k (n + 1) = bytesN m k n ++ [(AL.find (k + n) m).getD 0] := by
  simp [bytesN, List.range_succ]
theorem bytesN_len (m : List (Int × UInt8)) (k : Int) (n : Nat) : (bytesN m k n).length = n := by simp [bytesN]
def BS.take (s : BS) : BS := ⟨s.first, s.taken + s.ready, s.room, delN s.m s.taken s.ready⟩
def BS.out (s : BS) : List UInt8 := bytesN s.m s.taken s.ready
theorem BS.take_ok {s : BS} (ok : s.ok) : s.take.ok := by
  have h1 := ok.t0
  have h2 := BS.ready_le ok
  refine ⟨ok.f, by simp only [BS.take]; omega, h2, ok.r, fun k hk => ?_, delN_nd ok.nd _ _⟩
  obtain ⟨h3, h4⟩ := delN_keys ok.nd _ _ hk
  have := ok.keys k h3
  simp only [BS.take]
  omega

theorem step_delete_at {α : Type} {P : Program} {w : World} {r : Nat} {kk : IntKind} {enc : α → Value} {l : List (Int × α)} {t k e : TypeId} {ops : Array Oper} {o : Oper} {a : Act} {K : Act → World → Prop} {Q : Exit → Act → World → Prop} {E : Prop}
    (hg : o.guard = none) (m x : Operand) (hop : o.op = Op.call { callee := Callee.builtin Builtin.delete, args := #[m, x], argTypes := #[t, k] }) (ht : P.underlying t = some (.map k e)) (hk : P.underlying k = some (.int kk))
    (hm : a.eval m = .map (some r)) (n : Int) (hx : a.eval x = .int kk n) (h : MapAt w r kk enc l)
    (hK : ∀ w', MapAt w' r kk enc (AL.del n l) → w.mapTurned w' r → K (a.put o.dst (.tuple #[])) w') :
    if Region.wanted o (yielded ops a.tmps) = true then Oper.wp P o a w K Q else E := by
  have hw : Region.wanted o (yielded ops a.tmps) = true := by simp [Region.wanted, hg]
  rw [if_pos hw]
  obtain ⟨w', hrun, r1, r2⟩ := h.drop (P := P) ht hk n o.type
  unfold Oper.wp
  simp [execOp, hop, resolve, invoke, builtin, hm, hx, hrun, Result.andThen]
  exact hK _ r1 r2

theorem BuffAt.store1 {w : World} {b mb : Nat} {s : BS} (h : BuffAt w b mb s) (x : Int) : BuffAt (w.setCell ⟨b, 1, none⟩ (.int .i64 x)) b mb { s with taken := x } := by
  refine ⟨?_, h.map.of_heap (Below.heap_setCell _ _ _ _ (fun e => h.ne e.symm))⟩
  rw [heap_setCell_self h.head]; rfl

set_option maxRecDepth 100000 in
set_option maxHeartbeats 2000000 in
theorem btake_any {w : World} {b mb : Nat} {s : BS} (h : BuffAt w b mb s) (ok : s.ok) :
    Calls Tryz.prog 69 #[.pointer (some ⟨b, 0, none⟩)] w fun e w' => ∃ v, e = .returned v ∧ w'.ownsRow w.heap.size 5 1 v s.out.length (s.out.map u8V) ∧ BuffAt w' b mb s.take ∧ Keeps [b, mb] w w' := by
  have HR := Lib.hid (bready_any h ok)
  have t0 := ok.t0
  have r3 := BS.ready_le ok
  have t2 := ok.r
  have R1 := Lib.hid s.ready_in
  have F1 := Lib.hid (show s.take = ⟨s.first, s.taken + s.ready, s.room, delN s.m s.taken s.ready⟩ from rfl)
  have F2 := Lib.hid (show s.out = bytesN s.m s.taken s.ready from rfl)
  have ND := Lib.hid ok.nd
  have HB := Lib.hid h
  have LB := Lib.hid (lt_of_block h.head)
  have LM := Lib.hid h.map.lt
  obtain ⟨i0, hi0, hz0, hz1, hz2⟩ := info_parts Tryz.infoU8
  have I0 := Lib.hid hi0
  have Z0 := Lib.hid hz0
  have Z1 := Lib.hid hz1
  have Z2 := Lib.hid hz2
  clear h ok hi0 hz0 hz1 hz2
  generalize s.ready = r at *
  go_enter Tryz.func69, Tryz.ntmps69
  go_wp2_with fail
  refine HR.out.mono ?_
  rintro e w1 ⟨rfl, d, rfl⟩
  clear HR
  go_wp2_with fail
  go_loopw [4, 8] (fun v i wr => ∃ (k : Nat), i = .int .i64 k ∧ k ≤ r ∧ wr.ownsRow w.heap.size 5 1 v k ((bytesN s.m s.taken k).map u8V) ∧ BuffAt wr b mb ⟨s.first, s.taken + k, s.room, delN s.m s.taken k⟩ ∧ Keeps [b, mb] w wr) (fun _ i _ => r - (intOf i).toNat)
  case atStart => exact ⟨0, rfl, by omega, World.ownsRow_nil _ _ _ _, by simpa [delN] using HB.out.drewN d, Keeps.drewN _ _ _⟩
  case round =>
    obtain ⟨k, rfl, hk, hown, hb, hkp⟩ := hrel
    by_cases hlt : k < r
    · obtain ⟨x, hx⟩ := R1.out k hlt
      have h1 := hb.c1
      have h3 := hb.c3
      simp only at h1 h3
      have hfd : AL.find (s.taken + k) (delN s.m s.taken k) = some x := by rw [delN_find ND.out, if_neg (by omega), hx]
      have hlk : ∀ X : World, X.heap[mb]? = wr.heap[mb]? → (Instr.lookup 92 (.map (some mb)) (.int .i64 (s.taken + k)) false).run Tryz.prog X = .ok (.int .u8 (x.toNat : Int)) X := fun X hX => by
        have := hb.map.look (P := Tryz.prog) Tryz.underlying92 Tryz.underlying3 Tryz.zeroU8 (s.taken + k) X hX false
        simp only [hfd] at this
        exact this
      have hl0 := hlk wr rfl
      have hsz := hkp.size
      have hlb : b < wr.heap.size := lt_of_block hb.head
      have hlm : mb < wr.heap.size := hb.map.lt
      have hne := hb.ne
      have fin : bytesN s.m s.taken (k + 1) = bytesN s.m s.taken k ++ [x] := by rw [bytesN_succ, hx]; rfl
      have F3 := Lib.hid fin
      have F4 := Lib.hid (show delN s.m s.taken (k + 1) = AL.del (s.taken + k) (delN s.m s.taken k) from rfl)
      have HK := Lib.hid hlk
      have hob : ∀ j, u4.ownBlock = some j → w.heap.size ≤ j := fun j hj => (hown.lt j hj).1
      have hbw := LB.out
      have hmw := LM.out
      have GM := Lib.hid (fun (X : World) (o : Obj) (g : ((wr.alloc o).drew).grownBy X u4.ownBlock) => ((g.block mb (by simp; omega) (fun e => by have := hob mb e.symm; omega)).trans (Below.heap_alloc wr o mb hlm) : X.heap[mb]? = wr.heap[mb]?))
      have GB := Lib.hid (fun (X : World) (o : Obj) (g : ((wr.alloc o).drew).grownBy X u4.ownBlock) => (⟨((g.block b (by simp; omega) (fun e => by have := hob b e.symm; omega)).trans (Below.heap_alloc wr o b hlb)).trans hb.head, hb.map.of_heap ((g.block mb (by simp; omega) (fun e => by have := hob mb e.symm; omega)).trans (Below.heap_alloc wr o mb hlm))⟩ : BuffAt X b mb ⟨s.first, s.taken + k, s.room, delN s.m s.taken k⟩))
      have GP := Lib.hid (fun (X : World) (o : Obj) (g : ((wr.alloc o).drew).grownBy X u4.ownBlock) => (⟨g.os.trans hkp.os, g.tape.trans hkp.tape, g.output.trans hkp.output, by have := g.size; simp at this; omega, fun j hj hS => ((g.block j (by simp; omega) (fun e => by have := hob j e.symm; omega)).trans (Below.heap_alloc wr o j (by omega))).trans (hkp.block j hj hS)⟩ : Keeps [b, mb] w X))
      have GK := Lib.hid (fun (X : World) (o : Obj) (g : ((wr.alloc o).drew).grownBy X u4.ownBlock) (i : Nat) (v : Value) (hv : wr.cell? ⟨b, i, none⟩ = some v) => ((World.cell?_of_block (w := wr) ((g.block b (by simp; omega) (fun e => by have := hob b e.symm; omega)).trans (Below.heap_alloc wr o b hlb))).trans hv : X.cell? ⟨b, i, none⟩ = some v))
      have HO := Lib.hid hown
      have HBB := Lib.hid hb
      have KP := Lib.hid hkp
      have OL := Lib.hid (fun j hj => (hown.lt j hj).1)
      clear hx hfd hown hb hkp hlk fin hob hbw hmw
      go_wp2_with fail
      go_region_held3 (fun w' => w'.cell? ⟨b, 3, none⟩ = some (.map (some mb)) ∧ w'.cell? ⟨b, 1, none⟩ = some (.int .i64 (s.taken + k)) ∧ (Instr.lookup 92 (.map (some mb)) (.int .i64 (s.taken + k)) false).run Tryz.prog w' = .ok (.int .u8 (x.toNat : Int)) w')
        (first
          | (go_split_ands; refine ⟨by go_keep, by go_keep, ?_⟩; first | assumption | exact HK.out _ rfl | exact HK.out _ (Below.heap_alloc _ _ _ (by assumption)))
          | (go_split_ands; refine ⟨?_, ?_, ?_⟩
             · exact GK.out _ _ hgrow 3 _ h3
             · exact GK.out _ _ hgrow 1 _ h1
             · exact HK.out _ (GM.out _ _ hgrow)))
        ((refine step_append_lies _ (by rfl) _ _ _ (by rfl) w.heap.size 5 i0 _ 1 1 Tryz.underlying37 I0.out Z0.out Z1.out Z2.out rfl (by omega) u4 k _ (by rfl) ((HO.out.alloc _).drew) ⟨wr.heap.size, 0, none⟩ 1 1 [.int .u8 (x.toNat : Int)] (by rfl) (by rfl) (World.news_of_block (cs := #[.int .u8 (x.toNat : Int)]) (t := 5) (fr := (0, 0)) (heap_alloc_new wr _)) (by simp [Value.oneCell']) (by omega) (by simp only [maxLen]; omega) (by omega) (by simp; omega) (wr.heap.size + 1) (by simp) ?_; intro gg cap w2 hown1 hgrow hat hlt2))
      have hb2 := GB.out _ _ hgrow
      have kp2 := GP.out _ _ hgrow
      have O2 := Lib.hid hown1
      have k1 := hb2.c1
      have k3 := hb2.c3
      simp only at k1 k3
      have HB2 := Lib.hid hb2
      have KP2 := Lib.hid kp2
      clear hown1 hgrow hat h1 h3 hl0 GM GB GP GK HK HO HBB KP OL hb2 kp2
      go_wp2_with fail
      go_region_held3 (fun w' => w'.cell? ⟨b, 3, none⟩ = some (.map (some mb)) ∧ w'.cell? ⟨b, 1, none⟩ = some (.int .i64 (s.taken + k)))
        (first
          | go_keep
          | (refine ⟨?_, ?_⟩
             · exact cell_keeps (Keeps.turned hturn) k3 (by simpa using hne)
             · exact cell_keeps (Keeps.turned hturn) k1 (by simpa using hne)))
        ((refine step_delete_at (by rfl) _ _ (by rfl) Tryz.underlying92 Tryz.underlying3 (by rfl) (s.taken + k) (by rfl) (HB2.out.map.of_heap (w' := w2.drew) rfl) ?_; intro w3 hm3 hturn))
      have kt := Keeps.turned hturn
      have hb3 : BuffAt w3 b mb ⟨s.first, s.taken + k, s.room, delN s.m s.taken (k + 1)⟩ := ⟨(kt.block b (by have := KP2.out.size; have := LB.out; show b < w2.heap.size; omega) (by simpa using hne)).trans HB2.out.head, by rw [F4.out]; exact hm3⟩
      have kp3 : Keeps [b, mb] w w3 := KP2.out.trans (((Keeps.drew _ _).trans kt).mono (by simp))
      have ow3 := O2.out.kept (w' := w3) (row := some mb) ((Keeps.drew [mb] w2).trans kt).toGrown (Or.inr fun e => by have := (O2.out.lt mb e).1; have := LM.out; omega)
      have q1 := hb3.c1
      simp only at q1
      have q2 := hb3.fz 1
      have fin2 : BuffAt (w3.setCell ⟨b, 1, none⟩ (.int .i64 (s.taken + k + 1))) b mb ⟨s.first, s.taken + (k + 1 : Nat), s.room, delN s.m s.taken (k + 1)⟩ := by
        have := hb3.store1 (s.taken + k + 1)
        rw [show s.taken + (k + 1 : Nat) = s.taken + k + 1 by omega]
        exact this
      have ow4 := own_setCell ow3 ⟨b, 1, none⟩ (.int .i64 (s.taken + k + 1)) LB.out
      have kp4 : Keeps [b, mb] w (w3.setCell ⟨b, 1, none⟩ (.int .i64 (s.taken + k + 1))) := kp3.setCell' (Or.inr (by simp)) _
      have G1 := Lib.hid fin2
      have G2 := Lib.hid ow4
      have G3 := Lib.hid kp4
      clear fin2 ow4 kp4 hb3 kp3 ow3 kt hm3 hturn k1 k3
      go_wp2_with fail
      go_roundw
      case rel => exact ⟨k + 1, by simp, by omega, by rw [F3.out, List.map_append]; exact G2.out, G1.out, G3.out⟩
      case measure => simp [intOf]; omega
    · obtain rfl : k = r := by omega
      go_wp2_with fail
      go_ret
      exact ⟨_, rfl, by rw [F2.out, bytesN_len]; exact hown, by rw [F1.out]; exact hb, hkp⟩
end Go.Proofs.YtakgohocimlagaaGreat
