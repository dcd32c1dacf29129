/-
  The walk of policy.New: the table of the rules. Condition: the library's tables lie as the row lists them; the rules lie in memory as the slice says.
-/
import Derived.Test.YtbmkdnkiojapbaaDoorPolM
import Derived.Deep.RegionHeld3
namespace Go.Proofs.YtbmkdnkiojapbaaDoor
open Go.RowKit Go.Lib
set_option linter.unusedVariables false
set_option linter.unusedSimpArgs false

/-- the rules by their names, the first i of them -/
def tabN (l : List PR) (i : Nat) : List (ByteArray × PR) := (l.take i).foldl (fun T x => SL.put x.name x T) []
theorem tabN_next {l : List PR} {i : Nat} {x : PR} (hx : l[i]? = some x) : tabN l (i + 1) = SL.put x.name x (tabN l i) := by
  unfold tabN
  rw [List.take_add_one, hx]
  simp
def tabL (l : List PR) : List (ByteArray × PR) := tabN l l.length
/-- a table in memory -/
structure TabAt (w : World) (tb mb : Nat) (T : List (ByteArray × PR)) : Prop where
  head : w.heap[tb]? = some (.cells #[.map (some mb)] 69 (0, 0))
  map : SMapAt w mb encPR T
  ne : tb ≠ mb
theorem TabAt.keep {w w' : World} {tb mb : Nat} {T : List (ByteArray × PR)} {S : List Nat} (h : TabAt w tb mb T) (k : Keeps S w w') (h1 : tb ∉ S) (h2 : mb ∉ S) : TabAt w' tb mb T :=
  ⟨(k.block tb (lt_of_block h.head) h1).trans h.head, h.map.keep k h2, h.ne⟩
theorem TabAt.keep0 {w w' : World} {tb mb : Nat} {T : List (ByteArray × PR)} (h : TabAt w tb mb T) (k : Keeps [] w w') : TabAt w' tb mb T := h.keep k (by simp) (by simp)

set_option maxRecDepth 100000 in
set_option maxHeartbeats 4000000 in
theorem new_bad (w : World) (hw : LW w) (c : PC) (r : PCR) (A : Option Addr) (n k : Nat) (l : List PR) (hn : l.length = n) (hl : RulesAt w A l) (hb : n ≤ 9223372036854775807) (hm : mayL c l = false) :
    Calls Tryd.prog 12 #[cfgV c r, .slice A n k] w fun e w' => e = .returned (.tuple #[.pointer none, .int .i64 1]) ∧ Keeps [] w w' := by
  obtain ⟨CS, hCS⟩ : ∃ CS : List Value, CS = [.int .u32 c.inside, .int .u32 c.mask, .int .u32 c.outer, .int .u16 r.lo, .int .u16 r.hi, .int .u64 r.qu, .int .i64 r.fl, .slice r.wa r.wn r.wc, .int .i64 r.sn, .int .u16 r.ms, .int .i64 r.sc, .bool r.sk, .int .u64 r.ky, .slice r.ra r.rn r.rc, .slice r.fa r.fn r.fc, .int .u64 r.rt, .int .i64 r.tr, .int .u64 r.dl, .int .u64 r.wt] := ⟨_, rfl⟩
  have hcv : cfgV c r = .agg CS.toArray := by rw [hCS]; rfl
  have k1 : Keeps [] w (w.alloc (.cells CS.toArray 29)) := Keeps.alloc [] w _
  have HM := Lib.hid (may_any _ (hw.keep0 k1) c r A n k l hn (hl.keep0 k1) hb)
  have HRB := Lib.hid (range_box w CS 29)
  have hcl : CS.length = 19 := by rw [hCS]; rfl
  rw [hcv] at HM ⊢
  rw [hm] at HM
  have K1 := Lib.hid k1
  have HCL := Lib.hid hcl
  clear hw hn hl hm hCS hcv k1 hcl
  go_enter Tryd.func12, Tryd.ntmps12
  go_wp2_with (refine wpList_load_want 29 (.tmp 2) rfl (by simp [Region.wanted, yielded]) w.heap.size 0 rfl _ _ HRB.out Tryd.underlying29 rfl (by rw [HCL.out]; kernel_rfl) ?_)
  refine HM.out.mono ?_
  rintro e w2 ⟨rfl, k2⟩
  have K2 := Lib.hid (K1.out.trans k2)
  clear k2
  go_wp2_with fail
  go_ret2
  exact ⟨rfl, K2.out⟩
set_option maxRecDepth 100000 in
set_option maxHeartbeats 4000000 in
theorem new_ok (w : World) (hw : LW w) (c : PC) (r : PCR) (A : Option Addr) (n k : Nat) (l : List PR) (hn : l.length = n) (hl : RulesAt w A l) (hb : n ≤ 9223372036854775807) (hm : mayL c l = true) :
    Calls Tryd.prog 12 #[cfgV c r, .slice A n k] w fun e w' => ∃ tb mb, e = .returned (.tuple #[.pointer (some ⟨tb, 0, none⟩), .int .i64 0]) ∧ TabAt w' tb mb (tabL l) ∧ Keeps [] w w' ∧ w.heap.size ≤ tb ∧ w.heap.size ≤ mb := by
  obtain ⟨CS, hCS⟩ : ∃ CS : List Value, CS = [.int .u32 c.inside, .int .u32 c.mask, .int .u32 c.outer, .int .u16 r.lo, .int .u16 r.hi, .int .u64 r.qu, .int .i64 r.fl, .slice r.wa r.wn r.wc, .int .i64 r.sn, .int .u16 r.ms, .int .i64 r.sc, .bool r.sk, .int .u64 r.ky, .slice r.ra r.rn r.rc, .slice r.fa r.fn r.fc, .int .u64 r.rt, .int .i64 r.tr, .int .u64 r.dl, .int .u64 r.wt] := ⟨_, rfl⟩
  have hcv : cfgV c r = .agg CS.toArray := by rw [hCS]; rfl
  have k1 : Keeps [] w (w.alloc (.cells CS.toArray 29)) := Keeps.alloc [] w _
  have HM := Lib.hid (may_any _ (hw.keep0 k1) c r A n k l hn (hl.keep0 k1) hb)
  have HRB := Lib.hid (range_box w CS 29)
  have hcl : CS.length = 19 := by rw [hCS]; rfl
  rw [hcv] at HM ⊢
  rw [hm] at HM
  have K1 := Lib.hid k1
  have HCL := Lib.hid hcl
  have HN := Lib.hid hn
  have HL := Lib.hid hl
  have hmm := @run_makeMap Tryd.prog
  clear hw hn hl hm hCS hcv k1 hcl
  go_enter Tryd.func12, Tryd.ntmps12
  go_wp2_with (refine wpList_load_want 29 (.tmp 2) rfl (by simp [Region.wanted, yielded]) w.heap.size 0 rfl _ _ HRB.out Tryd.underlying29 rfl (by rw [HCL.out]; kernel_rfl) ?_)
  refine HM.out.mono ?_
  rintro e w2 ⟨rfl, k2⟩
  have K2 := Lib.hid (K1.out.trans k2)
  clear k2
  go_wp2_with fail
  obtain ⟨mb, hmb⟩ : ∃ mb, w2.heap.size = mb := ⟨_, rfl⟩
  obtain ⟨tb, htb⟩ : ∃ tb, mb + 1 = tb := ⟨_, rfl⟩
  rw [hmb, htb]
  refine wp_gn fun w3 hw3 => ?_
  have s1 : (w2.alloc (.map #[] 0)).heap.size = mb + 1 := by rw [World.size_alloc, hmb]
  have kb : Keeps [] w2 w3 := by rw [hw3]; exact (Keeps.alloc [] w2 _).alloc' _
  have hm3 : SMapAt w3 mb encPR [] := by
    have h1 := SMapAt.made w2 encPR
    rw [hmb] at h1
    rw [hw3]
    exact h1.keep (Keeps.alloc [] _ _) (by simp)
  have hh3 : w3.heap[tb]? = some (.cells #[.map (some mb)] 69 (0, 0)) := by
    rw [hw3, ← htb, ← s1]
    exact (MapKept.heap_alloc _ _).1
  have KB := Lib.hid (K2.out.trans kb)
  have hz2 := K2.out.size
  have hz : w.heap.size ≤ mb ∧ w.heap.size ≤ tb ∧ tb ≠ mb := by omega
  have HZ := Lib.hid hz
  clear hw3 hmm kb s1 hmb htb hz hz2 K2 HM HRB K1
  go_loopw [18] (fun iv wr => ∃ i : Nat, iv = .int .i64 i ∧ i ≤ n ∧ TabAt wr tb mb (tabN l i) ∧ Keeps [mb] w3 wr) (fun iv _ => n - (intOf iv).toNat)
  case atStart => exact ⟨0, rfl, by omega, ⟨hh3, hm3, HZ.out.2.2⟩, Keeps.refl _ _⟩
  case round =>
    obtain ⟨i, rfl, hi, hta, hkp⟩ := hrel
    have HT := Lib.hid hta
    have KP := Lib.hid hkp
    clear hta hkp hm3 hh3
    have kw : Keeps [] w wr := ((KB.out.mono (T := [mb]) (by simp)).trans KP.out).fresh (by intro y hy hlt; simp at hy; have := HZ.out; omega)
    have KW := Lib.hid kw
    clear kw
    by_cases hlt : i < n
    · have hlt' : (i : Int) < n := by omega
      obtain ⟨x, hx⟩ : ∃ x, l[i]? = some x := ⟨_, List.getElem?_eq_getElem (by rw [HN.out]; exact hlt)⟩
      have hne : ¬ l = [] := by rintro rfl; simp at hx
      obtain ⟨b, o, rfl, hc⟩ := HL.out.resolve_left hne
      obtain ⟨g0, g1, g2, g3⟩ := hc i x hx
      have c0 := cell_keeps KW.out g0 (by simp)
      have c1 := cell_keeps KW.out g1 (by simp)
      have c2 := cell_keeps KW.out g2 (by simp)
      have c3 := cell_keeps KW.out g3 (by simp)
      have HX := Lib.hid hx
      clear hc g0 g1 g2 g3 hx hne
      go_wp2_with fail
      refine wp_gn fun wg hwg => ?_
      have hg1 : Keeps [] wr wg := by rw [hwg]; exact Keeps.alloc [] wr _
      have hb1 : wg.heap[wr.heap.size]? = some (.cells #[.string x.name, .bool x.deny, .int .u32 x.addr, .int .u16 x.port] 35 (0, 0)) := by rw [hwg]; exact (MapKept.heap_alloc wr _).1
      obtain ⟨nb, hnb⟩ : ∃ nb, wr.heap.size = nb := ⟨_, rfl⟩
      rw [hnb] at hb1 ⊢
      have hlm := HT.out.map.lt
      have hlt2 := lt_of_block HT.out.head
      have HTG := Lib.hid ((HT.out.keep0 hg1).keep0 (Keeps.drew [] wg))
      have KPG := Lib.hid ((KP.out.trans (hg1.mono (by simp))).trans (Keeps.drew [mb] wg))
      have hbd : wg.drew.heap[nb]? = some (.cells #[.string x.name, .bool x.deny, .int .u32 x.addr, .int .u16 x.port] 35 (0, 0)) := hb1
      obtain ⟨w5, hrun, hm5, ht5⟩ := HTG.out.map.store (P := Tryd.prog) (t := 67) Tryd.underlying67 Tryd.underlying9 x.name x
      have hk5 : Keeps [mb] wg.drew w5 := Keeps.turned ht5
      have hb5 : w5.heap[nb]? = some (.cells #[.string x.name, .bool x.deny, .int .u32 x.addr, .int .u16 x.port] 35 (0, 0)) := (hk5.block nb (lt_of_block hbd) (by simp; omega)).trans hbd
      have hh5 : w5.heap[tb]? = some (.cells #[.map (some mb)] 69 (0, 0)) := (hk5.block tb (lt_of_block HTG.out.head) (by simp; have := HZ.out; omega)).trans HTG.out.head
      rw [← tabN_next HX.out] at hm5
      have HT5 := Lib.hid (show TabAt w5 tb mb (tabN l (i + 1)) from ⟨hh5, hm5, HZ.out.2.2⟩)
      have K5 := Lib.hid (KPG.out.trans hk5)
      have S1 := Lib.hid (show wg.drew.cell? ⟨tb, 0, none⟩ = some (.map (some mb)) ∧ wg.drew.cell? ⟨nb, 0, none⟩ = some (.string x.name) ∧ wg.drew.cell? ⟨nb, 1, none⟩ = some (.bool x.deny) ∧ wg.drew.cell? ⟨nb, 2, none⟩ = some (.int .u32 x.addr) ∧ wg.drew.cell? ⟨nb, 3, none⟩ = some (.int .u16 x.port) from
        ⟨cell_of_block HTG.out.head 0, cell_of_block hbd 0, cell_of_block hbd 1, cell_of_block hbd 2, cell_of_block hbd 3⟩)
      have S5 := Lib.hid (show w5.cell? ⟨tb, 0, none⟩ = some (.map (some mb)) ∧ w5.cell? ⟨nb, 0, none⟩ = some (.string x.name) ∧ w5.cell? ⟨nb, 1, none⟩ = some (.bool x.deny) ∧ w5.cell? ⟨nb, 2, none⟩ = some (.int .u32 x.addr) ∧ w5.cell? ⟨nb, 3, none⟩ = some (.int .u16 x.port) from
        ⟨cell_of_block hh5 0, cell_of_block hb5 0, cell_of_block hb5 1, cell_of_block hb5 2, cell_of_block hb5 3⟩)
      unfold encPR at hrun
      clear hwg hg1 hb1 hnb hlm hlt2 hbd hm5 ht5 hk5 hb5 hh5 c0 c1 c2 c3 HTG KPG
      go_region_held3 (fun w' => w'.cell? ⟨tb, 0, none⟩ = some (.map (some mb)) ∧ w'.cell? ⟨nb, 0, none⟩ = some (.string x.name) ∧ w'.cell? ⟨nb, 1, none⟩ = some (.bool x.deny) ∧ w'.cell? ⟨nb, 2, none⟩ = some (.int .u32 x.addr) ∧ w'.cell? ⟨nb, 3, none⟩ = some (.int .u16 x.port))
        (first | exact S1.out | exact S5.out)
        (fail)
      go_wp2_with fail
      exact ⟨⟨i + 1, by simp, by omega, HT5.out, K5.out⟩, by simp [intOf]; omega⟩
    · obtain rfl : i = n := by omega
      have HTE := Lib.hid (show TabAt wr tb mb (tabL l) by unfold tabL; rw [HN.out]; exact HT.out)
      have hlt' : ¬ (i : Int) < (i : Int) := by omega
      go_wp2_with fail
      go_ret2
      exact ⟨tb, rfl, mb, HTE.out, KW.out, HZ.out.2.1, HZ.out.1⟩
end Go.Proofs.YtbmkdnkiojapbaaDoor
