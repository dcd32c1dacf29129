/-
  The walk of the helper law wakes: it returns true and leaves what was there. Condition: the library's tables lie as the row lists them.
-/
import Derived.Test.YtbmkdnkiojapbaaDoorPolG
import Derived.Deep.MidRow
namespace Go.Proofs.YtbmkdnkiojapbaaDoor
open Go.RowKit Go.Lib
set_option linter.unusedVariables false
set_option linter.unusedSimpArgs false

def exB (s : List UInt8) : ByteArray := ⟨s.toArray⟩
/-- the chapter's rules -/
def rules0 : List PR := [⟨exB [97, 46, 101, 120, 97, 109, 112, 108, 101], false, 16843009, 1⟩, ⟨exB [42, 46, 101, 120, 97, 109, 112, 108, 101], false, 33686018, 2⟩, ⟨exB [42, 46, 98, 46, 101, 120, 97, 109, 112, 108, 101], true, 0, 0⟩, ⟨⟨#[]⟩, false, 50529027, 3⟩]
def pc0 : PC := ⟨167772160, 4278190080, 3221225985⟩
def pcr0 : PCR := ⟨0, 0, 0, 0, none, 0, 0, 0, 0, 0, false, 0, none, 0, 0, none, 0, 0, 0, 0, 0, 0⟩
theorem foldB_eq (s : ByteArray) : foldB s = match foldA s.data.toList with
  | some l => ⟨l.toArray⟩
  | none => ByteArray.empty := by
  unfold foldB
  rw [foldL_eq]
  cases foldA s.data.toList <;> rfl
theorem foldIs_eq (s : ByteArray) : foldIs s = (foldA s.data.toList).isSome := by unfold foldIs; rw [foldL_eq]
set_option maxRecDepth 100000 in
theorem rules_any (w : World) : Calls Tryd.prog 24 #[] w fun e w' => ∃ b, e = .returned (.slice (some ⟨b, 0, none⟩) 4 4) ∧ RulesAt w' (some ⟨b, 0, none⟩) rules0 ∧ Keeps [] w w' := by
  go_enter Tryd.func24, Tryd.ntmps24
  go_wp2_with fail
  go_ret
  refine ⟨_, rfl, .inr ⟨_, _, rfl, fun i x hx => ?_⟩, Keeps.alloc [] w _⟩
  have hh := (MapKept.heap_alloc w (.cells #[.string ⟨#[97, 46, 101, 120, 97, 109, 112, 108, 101]⟩, .bool false, .int .u32 16843009, .int .u16 1, .string ⟨#[42, 46, 101, 120, 97, 109, 112, 108, 101]⟩, .bool false, .int .u32 33686018, .int .u16 2, .string ⟨#[42, 46, 98, 46, 101, 120, 97, 109, 112, 108, 101]⟩, .bool true, .int .u32 0, .int .u16 0, .string ⟨#[]⟩, .bool false, .int .u32 50529027, .int .u16 3] 35)).1
  match i, hx with
  | 0, hx => injection hx with hx; subst hx; exact ⟨cell_of_block hh 0, cell_of_block hh 1, cell_of_block hh 2, cell_of_block hh 3⟩
  | 1, hx => injection hx with hx; subst hx; exact ⟨cell_of_block hh 4, cell_of_block hh 5, cell_of_block hh 6, cell_of_block hh 7⟩
  | 2, hx => injection hx with hx; subst hx; exact ⟨cell_of_block hh 8, cell_of_block hh 9, cell_of_block hh 10, cell_of_block hh 11⟩
  | 3, hx => injection hx with hx; subst hx; exact ⟨cell_of_block hh 12, cell_of_block hh 13, cell_of_block hh 14, cell_of_block hh 15⟩
  | i + 4, hx => exact absurd hx (by simp [rules0])
theorem results_cell {fn : Func} {t : Tmp} {ty : TypeId} (h : fn.results = #[.cell t ty]) (tmps : Array Value) {P : Program} (w : World) (a : Addr) (ha : tmps.getD t undef = .pointer (some a)) {v : Value} (hv : (loadVar ty a).run P w = .ok v w) : (results fn tmps).run P w = .ok v w := by
  have e : (asAddr (tmps[t]?.getD undef)).run P w = .ok a w := by
    rw [← Array.getD_eq_getD_getElem?, ha]; rfl
  unfold results
  simp [h, Result.andThen]
  rw [e]
  exact hv
theorem below_setCells' {B b : Nat} {a : World} (hb : B ≤ b) : ∀ (vs : List Value) (o : Nat) (w : World), Below B a w → Below B a (w.setCells b o vs)
  | [], _, _, h => h
  | v :: r, o, w, h => below_setCells' hb r (o + 1) _ (h.setCell (p := ⟨b, o, none⟩) hb v)
theorem there_alloc_new (w : World) (cs : List Value) (t : TypeId) (n : Nat) (hn : cs.length = n) : (w.alloc (.cells cs.toArray t)).there w.heap.size 0 n := by
  intro j hj
  have hh := (MapKept.heap_alloc w (.cells cs.toArray t)).1
  refine ⟨?_, free_of_block hh _⟩
  rw [cell_of_block hh]
  simp; omega
def zeros19 : List Value := [.int .u32 0, .int .u32 0, .int .u32 0, .int .u16 0, .int .u16 0, .int .u64 0, .int .i64 0, .slice none 0 0, .int .i64 0, .int .u16 0, .int .i64 0, .bool false, .int .u64 0, .slice none 0 0, .slice none 0 0, .int .u64 0, .int .i64 0, .int .u64 0, .int .u64 0]
def conf19 : List Value := [.int .u32 167772160, .int .u32 4278190080, .int .u32 3221225985, .int .u16 0, .int .u16 0, .int .u64 0, .int .i64 0, .slice none 0 0, .int .i64 0, .int .u16 0, .int .i64 0, .bool false, .int .u64 0, .slice none 0 0, .slice none 0 0, .int .u64 0, .int .i64 0, .int .u64 0, .int .u64 0]
set_option maxRecDepth 100000 in
set_option maxHeartbeats 2000000 in
theorem config_any (w : World) : Calls Tryd.prog 23 #[] w fun e w' => e = .returned (cfgV pc0 pcr0) ∧ Keeps [] w w' := by
  have hth := there_alloc_new w zeros19 29 19 rfl
  have HTH := Lib.hid hth
  have HRA := Lib.hid (World.rangeAt_setCells_same _ w.heap.size 0 conf19 (show (w.alloc (.cells zeros19.toArray 29)).there w.heap.size 0 19 from hth))
  have HB := Lib.hid (below_setCells' (Nat.le_refl _) conf19 0 _ ((Below.refl w.heap.size w).alloc (Nat.le_refl _) (.cells zeros19.toArray 29)))
  clear hth
  go_enter Tryd.func23, Tryd.ntmps23
  go_wp2_with (refine wpList_store_mid rfl 29 (.tmp 0) (.tmp 1) rfl w.heap.size 0 conf19.toArray rfl rfl HTH.out (by kernel_rfl) (by kernel_rfl) ?_)
  have hres := run_loadVar_mid (P := Tryd.prog) _ w.heap.size 0 29 conf19 _ HRA.out Tryd.underlying29 rfl (by kernel_rfl)
  refine bodyPost_ret (v := .agg conf19.toArray) ?_ rfl ⟨rfl, Below.keeps HB.out⟩
  exact (results_cell rfl _ _ _ rfl hres)
end Go.Proofs.YtbmkdnkiojapbaaDoor
