/-
  The walk of package host: Copy. Condition: a host's numbers are in the ranges of their kinds.
-/
import Derived.Test.YtgaidloicmkdaaaHostL
import Derived.Deep.MidRow
namespace Go.Proofs.Ytgaidloicmkdaaa
open Go.RowKit
set_option linter.unusedVariables false
set_option linter.unusedSimpArgs false
attribute [local go_sem ↓] Go.wp_at_zero Go.wp_at_succ

theorem below_setCells' {B b : Nat} {a : World} (hb : B ≤ b) : ∀ (vs : List Value) (o : Nat) (w : World), Below B a w → Below B a (w.setCells b o vs)
  | [], _, _, h => h
  | v :: r, o, w, h => below_setCells' hb r (o + 1) _ (h.setCell (p := ⟨b, o, none⟩) hb v)
theorem there_alloc_new (w : World) (cs : List Value) (t : TypeId) (n : Nat) (hn : cs.length = n) : (w.alloc (.cells cs.toArray t)).there w.heap.size 0 n := by
  intro j hj
  have hh := (MapKept.heap_alloc w (.cells cs.toArray t)).1
  refine ⟨?_, free_of_block hh _⟩
  rw [cell_of_block hh]
  simp; omega
def setAll : Array Value → Nat → List Value → Array Value
  | cs, _, [] => cs
  | cs, o, v :: r => setAll (cs.setIfInBounds o v) (o + 1) r
theorem setCells_block (b : Nat) (t : TypeId) (z : Nat × Nat) : ∀ (vs : List Value) (o : Nat) (w : World) (cs : Array Value), w.heap[b]? = some (.cells cs t z) → (w.setCells b o vs).heap[b]? = some (.cells (setAll cs o vs) t z)
  | [], _, _, _, h => h
  | v :: r, o, w, cs, h => setCells_block b t z r (o + 1) _ _ (heap_setCell_self h o v)
theorem wpList_load_want {P : Program} {ops : Array Oper} {rest : List Oper} {op : Oper} {a : Act} {w : World} {Q : Exit → Act → World → Prop} (ty : TypeId) (x : Operand) (ho : op.op = .load ty x)
    (hw : Region.wanted op (yielded ops a.tmps) = true)
    (b o : Nat) (hx : a.eval x = .pointer (some ⟨b, o, none⟩)) (cs : List Value) (d : TypeDesc) (hc : w.rangeAt b o cs)
    (hu : P.underlying ty = some d) (hd : d.isRow = true) (hi : (P.info? ty).map (·.size) = some cs.length)
    (h : wpList P ops Q rest (a.put op.dst (.agg cs.toArray)) w) : wpList P ops Q (op :: rest) a w :=
  BigFrame.wpList_want hw fun _ hK => wp_load_mid ty x ho b o hx cs d hc hu hd hi (hK _ _ h)
def zerosH : List Value := [.int .u16 0, .int .u32 0, .int .u16 0, .int .i64 0, .bool false, .int .i64 0, .int .u64 0, .int .i64 0, .int .i64 0, .int .u16 0, .int .u32 0, .int .u32 0, .slice none 0 0, .bool false, .int .u32 0, .int .u32 0, .slice none 0 0, .int .i64 0, .bool false, .int .i64 0, .int .i64 0, .bool false, .bool false, .int .u32 0, .int .u32 0, .int .u32 0, .bool false, .int .u64 0, .int .u64 0, .int .i64 0]
theorem host_new (w : World) (s : HS) : ((w.alloc (.cells zerosH.toArray 65)).setCells w.heap.size 0 s.cells.toList).heap[w.heap.size]? = some (.cells s.cells 65 (0, 0)) := by
  rw [setCells_block w.heap.size 65 (0, 0) s.cells.toList 0 _ _ (MapKept.heap_alloc w (.cells zerosH.toArray 65)).1]
  exact congrArg (fun c => some (Obj.cells c 65 (0, 0))) (show setAll zerosH.toArray 0 s.cells.toList = s.cells by simp [HS.cells, setAll, zerosH])
theorem host_new_keeps (w : World) (l : List Value) : Keeps [] w ((w.alloc (.cells zerosH.toArray 65)).setCells w.heap.size 0 l) :=
  Below.keeps (below_setCells' (Nat.le_refl _) l 0 _ ((Below.refl w.heap.size w).alloc (Nat.le_refl _) (.cells zerosH.toArray 65)))
theorem HostAt.range {w : World} {x : Nat} {s : HS} (h : HostAt w x s) : w.rangeAt x 0 s.cells.toList := by
  intro j v hj
  rw [Nat.zero_add, cell_of_block h.head j]
  simpa using hj
theorem HS.ones (s : HS) : s.cells.toList.toArray.all (·.oneCell') = true := by
  unfold HS.cells
  simp [Value.oneCell']
set_option maxRecDepth 100000 in
set_option maxHeartbeats 2000000 in
theorem hcopy_any {w : World} {b : Nat} {s : HS} (h : HostAt w b s) (ok : s.Ok) (h1 : 1 ≤ s.st) (ho : s.out.length ≤ 1073741824) (hl : s.inn.length ≤ 1073741824) :
    Calls Try.prog 15 #[.pointer (some ⟨b, 0, none⟩)] w fun e w' => ∃ b' Ao co Ai ci, e = .returned (.pointer (some ⟨b', 0, none⟩)) ∧ w.heap.size ≤ b' ∧ HostAt w' b' { s with outA := Ao, outC := co, innA := Ai, innC := ci } ∧ Keeps [] w w' := by
  have HN := Lib.hid (hnone_no h h1)
  have H0 := Lib.hid h
  have HO := Lib.hid (fun W (hW : BytesV W (.slice s.outA s.out.length s.outC) s.out) => bclone_any W s.outA s.out.length s.outC s.out hW (by omega))
  have HI := Lib.hid (fun W (hW : BytesV W (.slice s.innA s.inn.length s.innC) s.inn) => bclone_any W s.innA s.inn.length s.innC s.inn hW (by omega))
  have RG := Lib.hid h.range
  have hone := HS.ones s
  have hth := there_alloc_new w zerosH 65 30 rfl
  have hst : ∃ W24, (storeCells ⟨w.heap.size, 0, none⟩ s.cells.toList).run Try.prog (w.alloc (.cells zerosH.toArray 65)) = .ok () W24 ∧ W24.heap[w.heap.size]? = some (.cells s.cells 65 (0, 0)) ∧ Keeps [] w W24 :=
    ⟨_, run_storeCells_cells (P := Try.prog) w.heap.size 0 s.cells.toList 0 _ (fun j hj => by simpa only [Nat.zero_add, Nat.add_zero] using (hth j hj).1) (fun j hj => by simpa only [Nat.zero_add, Nat.add_zero] using (hth j hj).2) (fun v hv => (Array.all_eq_true_iff_forall_mem.1 hone) v (by simpa using hv)), host_new w s, host_new_keeps w _⟩
  unfold zerosH at hst
  have hlen : s.cells.toList.length = 30 := rfl
  generalize s.cells.toList = CS at RG hst hlen
  obtain ⟨W24, hst, hnew, hnk⟩ := hst
  have NEW := Lib.hid hnew
  have NK := Lib.hid hnk
  have HLE := Lib.hid hlen
  clear h ok hone hth hlen hnew hnk
  go_enter Try.func15, Try.ntmps15
  go_wp2_with fail
  refine HN.out.mono ?_
  rintro e w1 ⟨rfl, rfl⟩
  go_upto_region 4 with (first
    | (with_reducible refine wpList_load_want 65 (.tmp 7) (by with_reducible rfl) (by simp [Region.wanted, yielded]) b 0 (by with_unfolding_all rfl) CS _ RG.out Try.underlying65 (by with_unfolding_all rfl) (by rw [HLE.out]; kernel_rfl) ?_)
    | fail)
  refine wp_gn (fun W hW => ?_)
  have hx : W.heap[w.heap.size]? = some (.cells s.cells 65 (0, 0)) := by rw [hW]; exact NEW.out
  have k0 : Keeps [] w W := by rw [hW]; exact NK.out
  have HX := Lib.hid hx
  have HB := Lib.hid (H0.out.keep0 k0)
  have K0 := Lib.hid k0
  have hlt := (Array.getElem?_eq_some_iff.1 hx).1
  have hn0 : HostAt W w.heap.size s := HostAt.mk hx (H0.out.keep0 k0).out (H0.out.keep0 k0).inn
  have HN0 := Lib.hid hn0
  have E12 := Lib.hid hn0.c12
  have E16 := Lib.hid hn0.c16
  clear hn0
  have c12 := HB.out.c12
  have hbn := H0.out.lt
  have c16 := HB.out.c16
  clear hW k0 hx NEW NK RG HLE hst
  go_region_held3 (fun w' => w'.cell? ⟨b, 12, none⟩ = some (.slice s.outA s.out.length s.outC) ∧ w'.cell? ⟨b, 16, none⟩ = some (.slice s.innA s.inn.length s.innC)) ((refine (fun kx => ⟨cell_keeps kx c12 (by simp; omega), cell_keeps kx c16 (by simp; omega)⟩ : Keeps [w.heap.size] W _ → _) ?_; (repeat (first | with_reducible assumption | with_reducible exact Keeps.refl _ _ | with_reducible apply Keeps.alloc' | with_reducible apply Keeps.drew' | with_reducible apply Keeps.drewN' | (with_reducible apply Keeps.setCell'; rotate_left; · simp))))) (first | (go_at_call 37; (with_reducible refine (HO.out _ (HB.out.out.keep0 (by (repeat (first | with_reducible assumption | with_reducible exact Keeps.refl _ _ | with_reducible apply Keeps.alloc' | with_reducible apply Keeps.drew' | with_reducible apply Keeps.drewN' | (with_reducible apply Keeps.setCell'; rotate_left; · simp)))))).mono ?_); rintro e wo ⟨v, rfl, bo, ko⟩; obtain ⟨Ao, co, rfl⟩ := bo.slice; have BO := Lib.hid bo; have kwo : Keeps [] W wo := Keeps.trans (by (repeat (first | with_reducible assumption | with_reducible exact Keeps.refl _ _ | with_reducible apply Keeps.alloc' | with_reducible apply Keeps.drew' | with_reducible apply Keeps.drewN' | (with_reducible apply Keeps.setCell'; rotate_left; · simp)))) ko; have KO := Lib.hid ko; have kxo : Keeps [w.heap.size] W wo := kwo.mono (by simp); have e12o := cell_keeps kwo E12.out (by simp); have e16o := cell_keeps kwo E16.out (by simp); have g12o := free_of_block ((kwo.block _ hlt (by simp)).trans HX.out) 12; have g16o := free_of_block ((kwo.block _ hlt (by simp)).trans HX.out) 16; clear ko bo) | (go_at_call 37; (with_reducible refine (HI.out _ (HB.out.inn.keep0 (by (repeat (first | with_reducible assumption | with_reducible exact Keeps.refl _ _ | with_reducible apply Keeps.alloc' | with_reducible apply Keeps.drew' | with_reducible apply Keeps.drewN' | (with_reducible apply Keeps.setCell'; rotate_left; · simp)))))).mono ?_); rintro e wi ⟨v, rfl, bi, ki⟩; obtain ⟨Ai, ci, rfl⟩ := bi.slice; have BI := Lib.hid bi; have kwi : Keeps [] W wi := Keeps.trans (by (repeat (first | with_reducible assumption | with_reducible exact Keeps.refl _ _ | with_reducible apply Keeps.alloc' | with_reducible apply Keeps.drew' | with_reducible apply Keeps.drewN' | (with_reducible apply Keeps.setCell'; rotate_left; · simp)))) ki; have KI := Lib.hid ki; have kxi : Keeps [w.heap.size] W wi := kwi.mono (by simp); have e12i := cell_keeps kwi E12.out (by simp); have e16i := cell_keeps kwi E16.out (by simp); have g12i := free_of_block ((kwi.block _ hlt (by simp)).trans HX.out) 12; have g16i := free_of_block ((kwi.block _ hlt (by simp)).trans HX.out) 16; clear ki bi))
  have hn : HostAt wi w.heap.size s := HN0.out.keep0 kwi
  have h3 := (hn.s12 Ao s.out co (BO.out.keep0 KI.out)).s16 Ai s.inn ci (BI.out.keep (Keeps.setCell wi ⟨w.heap.size, 12, none⟩ _) hn.no)
  have H3 := Lib.hid h3
  have K3 := Lib.hid (((K0.out.trans kwi).setCell' (p := ⟨w.heap.size, 12, none⟩) (Or.inl (Nat.le_refl _)) (.slice Ao s.out.length co)).setCell' (p := ⟨w.heap.size, 16, none⟩) (Or.inl (Nat.le_refl _)) (.slice Ai s.inn.length ci))
  clear hn h3 kwi kwo kxi kxo e12o e16o e12i e16i g12o g16o g12i g16i
  go_upto_region 5 with fail
  refine wp_gn (fun W5 hW5 => ?_)
  rw [← hW5] at H3 K3
  clear hW5
  go_wp2_with fail
  go_ret
  exact ⟨_, rfl, by with_reducible exact Nat.le_refl _, ⟨Ao, co, Ai, ci, H3.out⟩, K3.out⟩
end Go.Proofs.Ytgaidloicmkdaaa
