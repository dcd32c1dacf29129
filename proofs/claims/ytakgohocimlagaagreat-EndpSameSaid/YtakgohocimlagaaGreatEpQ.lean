/-
  The walk of package endp: Copy of an end towards a client. No condition but that the end lies in memory. The walks of package endp (6): culvertref20.Same of two rows of at most one ACK, which are the same. No condition but that they lie in memory. The plain law of EndpSame: the same bytes once more make nothing ready. No condition but the sizes.
-/
import Derived.Test.YtakgohocimlagaaGreatEpY
import Derived.Deep.MidRow
namespace Go.Proofs.YtakgohocimlagaaGreat
open Go.RowKit
set_option linter.unusedVariables false
set_option linter.unusedSimpArgs false

set_option maxHeartbeats 400000 in
theorem xnone_nil (w : World) : Calls Tryz.prog 58 #[.pointer none] w fun e w' => e = .returned (.bool true) ∧ w = w' := by
  go_enter Tryz.func58, Tryz.ntmps58
  go_wp2_with fail
  go_ret
  exact ⟨rfl, rfl⟩
set_option maxHeartbeats 400000 in
theorem xcopy_nil (w : World) : Calls Tryz.prog 32 #[.pointer none] w fun e w' => e = .returned (.pointer none) ∧ w = w' := by
  go_enter Tryz.func32, Tryz.ntmps32
  go_wp2_with fail
  refine (xnone_nil _).mono ?_
  rintro e w1 ⟨rfl, rfl⟩
  go_wp2_with fail
  go_ret
  exact ⟨rfl, rfl⟩
set_option maxHeartbeats 400000 in
theorem bclone_nil (w : World) : Calls Tryz.prog 33 #[.slice none 0 0] w fun e w' => e = .returned (.slice none 0 0) ∧ w = w' := by
  have hk := fun w => Lib.run_eql_slice_nil (P := Tryz.prog) w 37 5 none 0 0 0 0 Tryz.underlying37
  go_enter Tryz.func33, Tryz.ntmps33
  go_wp2
  go_ret
  exact ⟨rfl, rfl⟩

theorem below_setCells' {B b : Nat} {a : World} (hb : B ≤ b) : ∀ (vs : List Value) (o : Nat) (w : World), Below B a w → Below B a (w.setCells b o vs)
  | [], _, _, h => h
  | v :: r, o, w, h => below_setCells' hb r (o + 1) _ (h.setCell (p := ⟨b, o, none⟩) hb v)
theorem there_alloc_new (w : World) (cs : List Value) (t : TypeId) (n : Nat) (hn : cs.length = n) : (w.alloc (.cells cs.toArray t)).there w.heap.size 0 n := by
  intro j hj
  have hh := (MapKept.heap_alloc w (.cells cs.toArray t)).1
  refine ⟨?_, free_of_block hh _⟩
  rw [cell_of_block hh]
  simp; omega
def setAll : Array Value → Nat → List Value → Array Value
  | cs, _, [] => cs
  | cs, o, v :: r => setAll (cs.setIfInBounds o v) (o + 1) r
theorem setCells_block (b : Nat) (t : TypeId) (z : Nat × Nat) : ∀ (vs : List Value) (o : Nat) (w : World) (cs : Array Value), w.heap[b]? = some (.cells cs t z) → (w.setCells b o vs).heap[b]? = some (.cells (setAll cs o vs) t z)
  | [], _, _, _, h => h
  | v :: r, o, w, cs, h => setCells_block b t z r (o + 1) _ _ (heap_setCell_self h o v)
theorem wpList_load_want {P : Program} {ops : Array Oper} {rest : List Oper} {op : Oper} {a : Act} {w : World} {Q : Exit → Act → World → Prop} (ty : TypeId) (x : Operand) (ho : op.op = .load ty x)
    (hw : Region.wanted op (yielded ops a.tmps) = true)
    (b o : Nat) (hx : a.eval x = .pointer (some ⟨b, o, none⟩)) (cs : List Value) (d : TypeDesc) (hc : w.rangeAt b o cs)
    (hu : P.underlying ty = some d) (hd : d.isRow = true) (hi : (P.info? ty).map (·.size) = some cs.length)
    (h : wpList P ops Q rest (a.put op.dst (.agg cs.toArray)) w) : wpList P ops Q (op :: rest) a w :=
  BigFrame.wpList_want hw fun _ hK => wp_load_mid ty x ho b o hx cs d hc hu hd hi (hK _ _ h)
def zeros24 : List Value := [.int .u16 0, .int .u16 0, .int .u32 0, .int .u16 0, .int .i64 0, .bool false, .int .i64 0, .int .u64 0, .int .i64 0, .int .u32 0, .int .u32 0, .int .u16 0, .int .i64 0, .bool false, .int .u32 0, .int .i64 0, .pointer none, .slice none 0 0, .bool false, .pointer none, .slice none 0 0, .int .u64 0, .int .u64 0, .int .i64 0]
theorem end_new (w : World) (s : ES) : EndAt ((w.alloc (.cells zeros24.toArray 66)).setCells w.heap.size 0 s.cells.toList) w.heap.size s := by
  unfold EndAt
  rw [setCells_block w.heap.size 66 (0, 0) s.cells.toList 0 _ _ (MapKept.heap_alloc w (.cells zeros24.toArray 66)).1]
  exact congrArg (fun c => some (Obj.cells c 66 (0, 0))) (show setAll zeros24.toArray 0 s.cells.toList = s.cells by simp [ES.cells, setAll, zeros24])
theorem end_new_keeps (w : World) (l : List Value) : Keeps [] w ((w.alloc (.cells zeros24.toArray 66)).setCells w.heap.size 0 l) :=
  Below.keeps (below_setCells' (Nat.le_refl _) l 0 _ ((Below.refl w.heap.size w).alloc (Nat.le_refl _) (.cells zeros24.toArray 66)))
theorem EndAt.range {w : World} {x : Nat} {s : ES} (h : EndAt w x s) : w.rangeAt x 0 s.cells.toList := by
  intro j v hj
  rw [Nat.zero_add, cell_of_block h j]
  simpa using hj
theorem ES.ones {s : ES} {a b : Option Addr} {A1 A2 : Option Addr} {n1 c1 n2 c2 : Nat} (h1 : s.inp = .pointer a) (h2 : s.out = .pointer b) (h3 : s.tak = .slice A1 n1 c1) (h4 : s.wri = .slice A2 n2 c2) : s.cells.toList.toArray.all (·.oneCell') = true := by
  unfold ES.cells
  rw [h1, h2, h3, h4]
  simp [Value.oneCell']

theorem own_lower {w : World} {B B' e sz n : Nat} {v : Value} {xs : List Value} (h : w.ownsRow B e sz v n xs) (hB : B' ≤ B) : w.ownsRow B' e sz v n xs := by
  refine ⟨h.1, ?_⟩
  rcases h.2 with h0 | ⟨g, cap, cur, e, hb, hg, hr⟩
  · exact .inl h0
  · exact .inr ⟨g, cap, cur, e, Nat.le_trans hB hb, hg, hr⟩
set_option maxRecDepth 100000 in
set_option maxHeartbeats 2000000 in
theorem ecopy_cli {w : World} {B x b mb : Nat} {s : ES} {st : BS} {tl : List UInt8} (h : Cli w B x b mb s st tl) :
    Calls Tryz.prog 9 #[.pointer (some ⟨x, 0, none⟩)] w fun e w' => ∃ y b2 mb2 t2, e = .returned (.pointer (some ⟨y, 0, none⟩)) ∧ Cli w' B y b2 mb2 { s with inp := .pointer (some ⟨b2, 0, none⟩), tak := t2 } st tl ∧ Keeps [] w w' ∧ ∀ j ∈ footC y b2 mb2 { s with inp := .pointer (some ⟨b2, 0, none⟩), tak := t2 }, w.heap.size ≤ j := by
  have HN := Lib.hid (enone_no h.e (by have := h.st2; omega))
  have H0 := Lib.hid h
  obtain ⟨A, c, ht⟩ := own_slice h.own
  have hbt := BytesV.of_own h.own
  rw [ht] at hbt
  have HBT := Lib.hid hbt
  have HC := Lib.hid (fun W (hW : BytesV W (.slice A tl.length c) tl) => bclone_own W A tl.length c tl hW (by have := h.len; have := h.okb.tr; have := h.okb.r; omega))
  have d16 := h.e.c16
  have d17 := h.e.c17
  have d19 := h.e.c19
  have d20 := h.e.c20
  rw [h.inp] at d16
  rw [ht] at d17
  rw [h.out] at d19
  rw [h.wri] at d20
  have D16 := Lib.hid d16
  have D17 := Lib.hid d17
  have D19 := Lib.hid d19
  have D20 := Lib.hid d20
  have hxw := h.e.lt
  have hone := ES.ones h.inp h.out ht h.wri
  have RG := Lib.hid h.e.range
  have hth := there_alloc_new w zeros24 66 24 rfl
  have hst : ∃ W24, (storeCells ⟨w.heap.size, 0, none⟩ s.cells.toList).run Tryz.prog (w.alloc (.cells zeros24.toArray 66)) = .ok () W24 ∧ EndAt W24 w.heap.size s ∧ Keeps [] w W24 :=
    ⟨_, run_storeCells_cells (P := Tryz.prog) w.heap.size 0 s.cells.toList 0 _ (fun j hj => by simpa only [Nat.zero_add, Nat.add_zero] using (hth j hj).1) (fun j hj => by simpa only [Nat.zero_add, Nat.add_zero] using (hth j hj).2) (fun v hv => (Array.all_eq_true_iff_forall_mem.1 hone) v (by simpa using hv)), end_new w s, end_new_keeps w _⟩
  unfold zeros24 at hst
  have hlen : s.cells.toList.length = 24 := rfl
  generalize s.cells.toList = CS at RG hst hlen
  obtain ⟨W24, hst, hnew, hnk⟩ := hst
  have NEW := Lib.hid hnew
  have NK := Lib.hid hnk
  have HLE := Lib.hid hlen
  clear h hbt ht hth hlen d16 d17 d19 d20 hone hnew hnk
  go_enter Tryz.func9, Tryz.ntmps9
  go_wp2_with fail
  refine HN.out.mono ?_
  rintro e w1 ⟨rfl, rfl⟩
  go_upto_region 3 with fail
  go_upto_region 4 with (first
    | (with_reducible refine wpList_load_want 66 (.tmp 7) (by with_reducible rfl) (by simp [Region.wanted, yielded]) x 0 (by with_unfolding_all rfl) CS _ RG.out Tryz.underlying66 (by with_unfolding_all rfl) (by rw [HLE.out]; kernel_rfl) ?_)
    | fail)
  refine wp_gn (fun W hW => ?_)
  have hx : EndAt W w.heap.size s := by rw [hW]; exact NEW.out
  have k0 : Keeps [] w W := by rw [hW]; exact NK.out
  have HX := Lib.hid hx
  have HB := Lib.hid (fun (W' : World) (k : Keeps [] W W') => bcopy_any (H0.out.bf.keep (k0.trans k) (by simp) (by simp)))
  have K0 := Lib.hid k0
  have hlt := hx.lt
  have E16 := Lib.hid hx.c16
  have E19 := Lib.hid hx.c19
  have q16 := cell_keeps k0 D16.out (by simp)
  have q19 := cell_keeps k0 D19.out (by simp)
  clear hW k0 hx NEW NK RG HLE hst
  go_region_held3 (fun w' => w'.cell? ⟨x, 16, none⟩ = some (.pointer (some ⟨b, 0, none⟩)) ∧ w'.cell? ⟨x, 19, none⟩ = some (.pointer none)) ((refine (fun kx => ⟨cell_keeps kx q16 (by simp; omega), cell_keeps kx q19 (by simp; omega)⟩ : Keeps [w.heap.size] W _ → _) ?_; (repeat (first | with_reducible assumption | with_reducible exact Keeps.refl _ _ | with_reducible apply Keeps.alloc' | with_reducible apply Keeps.drew' | with_reducible apply Keeps.drewN' | (with_reducible apply Keeps.setCell'; rotate_left; · simp))))) (first | (go_at_call 31; (with_reducible refine (HB.out _ (by (repeat (first | with_reducible assumption | with_reducible exact Keeps.refl _ _ | with_reducible apply Keeps.alloc' | with_reducible apply Keeps.drew' | with_reducible apply Keeps.drewN' | (with_reducible apply Keeps.setCell'; rotate_left; · simp))))).mono ?_); rintro e wo ⟨b2, mb2, rfl, bo, ko, z1, z2⟩; have BO := Lib.hid bo; have kwo : Keeps [] W wo := Keeps.trans (by (repeat (first | with_reducible assumption | with_reducible exact Keeps.refl _ _ | with_reducible apply Keeps.alloc' | with_reducible apply Keeps.drew' | with_reducible apply Keeps.drewN' | (with_reducible apply Keeps.setCell'; rotate_left; · simp)))) ko; have KO := Lib.hid ko; have kxo : Keeps [w.heap.size] W wo := kwo.mono (by simp); have e16o := cell_keeps kwo E16.out (by simp); have e19o := cell_keeps kwo E19.out (by simp); have g16o := free_of_block ((kwo.block _ hlt (by simp)).trans HX.out) 16; have g19o := free_of_block ((kwo.block _ hlt (by simp)).trans HX.out) 19; clear ko bo) | (go_at_call 32; (with_reducible refine (xcopy_nil _).mono ?_); rintro e wi ⟨rfl, rfl⟩))
  go_upto_region 5 with fail
  refine wp_gn (fun W5 hW5 => ?_)
  have hkS : Keeps [w.heap.size] wo W5 := by rw [hW5]; exact ((Keeps.refl _ _).setCell' (Or.inr (by simp)) _).setCell' (Or.inr (by simp)) _
  have hx5 : EndAt W5 w.heap.size { s with inp := .pointer (some ⟨b2, 0, none⟩), out := .pointer none } := by rw [hW5]; exact ((HX.out.keep0 kwo).s16 _).s19 _
  have hk5 : Keeps [] w W5 := ((K0.out.trans kwo).mono (T := [w.heap.size]) (by simp) |>.trans hkS).fresh (by simp)
  have hz0 : W.heap.size ≤ b2 ∧ W.heap.size ≤ mb2 := by
    have hz := KO.out.size
    exact ⟨by first | exact z1 | (refine Nat.le_trans ?_ z1; simp), by first | exact z2 | (refine Nat.le_trans ?_ z2; simp)⟩
  have hbf5 : BuffAt W5 b2 mb2 st := BO.out.keep hkS (by simp; omega) (by simp; omega)
  have r17 := cell_keeps hk5 D17.out (by simp)
  have r20 := cell_keeps hk5 D20.out (by simp)
  have HBT5 := Lib.hid (HBT.out.keep0 hk5)
  have HX5 := Lib.hid hx5
  have E17 := Lib.hid hx5.c17
  have E20 := Lib.hid hx5.c20
  have hlt5 := hx5.lt
  have HBF5 := Lib.hid hbf5
  have HK5 := Lib.hid hk5
  have hb25 := lt_of_block hbf5.head
  clear hW5 hkS hx5 hk5 hbf5 q16 q19 e16o e19o g16o g19o kwo kxo KO BO K0 HX HB
  go_region_held3 (fun w' => w'.cell? ⟨x, 17, none⟩ = some (.slice A tl.length c) ∧ w'.cell? ⟨x, 20, none⟩ = some (.slice none 0 0)) ((refine (fun kx => ⟨cell_keeps kx r17 (by simp; omega), cell_keeps kx r20 (by simp; omega)⟩ : Keeps [w.heap.size] W5 _ → _) ?_; (repeat (first | with_reducible assumption | with_reducible exact Keeps.refl _ _ | with_reducible apply Keeps.alloc' | with_reducible apply Keeps.drew' | with_reducible apply Keeps.drewN' | (with_reducible apply Keeps.setCell'; rotate_left; · simp))))) (first | (go_at_call 33; (with_reducible refine (HC.out _ (HBT5.out.keep0 (by (repeat (first | with_reducible assumption | with_reducible exact Keeps.refl _ _ | with_reducible apply Keeps.alloc' | with_reducible apply Keeps.drew' | with_reducible apply Keeps.drewN' | (with_reducible apply Keeps.setCell'; rotate_left; · simp)))))).mono ?_); rintro e wo ⟨v, rfl, ho, ko⟩; obtain ⟨A', c', rfl⟩ := own_slice ho; have kwo : Keeps [] W5 wo := Keeps.trans (by (repeat (first | with_reducible assumption | with_reducible exact Keeps.refl _ _ | with_reducible apply Keeps.alloc' | with_reducible apply Keeps.drew' | with_reducible apply Keeps.drewN' | (with_reducible apply Keeps.setCell'; rotate_left; · simp)))) ko; have kxo : Keeps [w.heap.size] W5 wo := kwo.mono (by simp); have OWN := Lib.hid (own_lower (B' := W5.heap.size) ho (Keeps.size (S := []) (by (repeat (first | with_reducible assumption | with_reducible exact Keeps.refl _ _ | with_reducible apply Keeps.alloc' | with_reducible apply Keeps.drew' | with_reducible apply Keeps.drewN' | (with_reducible apply Keeps.setCell'; rotate_left; · simp)))))); have e17o := cell_keeps kwo E17.out (by simp); have e20o := cell_keeps kwo E20.out (by simp); have g17o := free_of_block ((kwo.block _ hlt5 (by simp)).trans HX5.out) 17; have g20o := free_of_block ((kwo.block _ hlt5 (by simp)).trans HX5.out) 20; clear ko ho) | (go_at_call 33; (with_reducible refine (bclone_nil _).mono ?_); rintro e wi ⟨rfl, rfl⟩))
  go_upto_region 6 with fail
  refine wp_gn (fun W6 hW6 => ?_)
  have hkS : Keeps [w.heap.size] wo W6 := by rw [hW6]; exact ((Keeps.refl _ _).setCell' (Or.inr (by simp)) _).setCell' (Or.inr (by simp)) _
  have hx6 : EndAt W6 w.heap.size { s with inp := .pointer (some ⟨b2, 0, none⟩), out := .pointer none, tak := .slice A' tl.length c', wri := .slice none 0 0 } := by rw [hW6]; exact ((HX5.out.keep0 kwo).s17 _).s20 _
  have e6 : ({ s with inp := .pointer (some ⟨b2, 0, none⟩), out := .pointer none, tak := .slice A' tl.length c', wri := .slice none 0 0 } : ES) = { s with inp := .pointer (some ⟨b2, 0, none⟩), tak := .slice A' tl.length c' } := by rw [← H0.out.out, ← H0.out.wri]
  rw [e6] at hx6
  have hk6 : Keeps [] w W6 := ((HK5.out.trans kwo).mono (T := [w.heap.size]) (by simp) |>.trans hkS).fresh (by simp)
  have hmb := HBF5.out.map.lt
  have hbf6 : BuffAt W6 b2 mb2 st := (HBF5.out.keep kwo (by simp) (by simp)).keep hkS (by simp; omega) (by simp; omega)
  have hsep : ∀ j, (Value.slice A' tl.length c').ownBlock = some j → W5.heap.size ≤ j := fun j hj => (OWN.out.lt j hj).1
  have hown : W6.ownsRow W5.heap.size 5 1 (.slice A' tl.length c') tl.length (tl.map u8V) := own_keepsS OWN.out hkS (fun j hj => by have := hsep j hj; simp; omega)
  have hBw : B ≤ w.heap.size := Nat.le_of_lt (Nat.lt_of_le_of_lt H0.out.zx hxw)
  have hW5 := HK5.out.size
  have R := Lib.hid (show Cli W6 B w.heap.size b2 mb2 { s with inp := .pointer (some ⟨b2, 0, none⟩), tak := .slice A' tl.length c' } st tl ∧ Keeps [] w W6 ∧ ∀ j ∈ footC w.heap.size b2 mb2 { s with inp := .pointer (some ⟨b2, 0, none⟩), tak := .slice A' tl.length c' }, w.heap.size ≤ j from
    ⟨⟨hx6, ⟨H0.out.ok.loc, H0.out.ok.rem, H0.out.ok.iss, H0.out.ok.sscl, H0.out.ok.sscl', H0.out.ok.scl, H0.out.ok.irs⟩, H0.out.st2, rfl, H0.out.out, H0.out.wri, hbf6, H0.out.okb, own_lower hown (by omega), fun j hj => by have := hsep j hj; omega, by omega, by omega, hBw, by omega, by omega, H0.out.len⟩, hk6, fun j hj => by
      simp only [footC, List.mem_cons, Option.mem_toList] at hj
      rcases hj with h0 | h0 | h0 | h0
      · omega
      · omega
      · omega
      · have := hsep j h0; omega⟩)
  clear hW6 hkS hx6 hk6 hbf6 hown e6 r17 r20 e17o e20o g17o g20o kwo kxo hsep
  go_wp2_with fail
  go_ret
  exact ⟨_, _, _, _, rfl, R.out⟩
end Go.Proofs.YtakgohocimlagaaGreat

namespace Go.Proofs.YtakgohocimlagaaGreat
open Go.RowKit
set_option linter.unusedVariables false
set_option linter.unusedSimpArgs false

set_option maxRecDepth 100000 in
set_option maxHeartbeats 400000 in
theorem r5same_nil (w : World) : Calls Tryz.prog 97 #[.slice none 0 0, .slice none 0 0] w fun e w' => e = .returned (.bool true) ∧ Keeps [] w w' := by
  go_enter Tryz.func97, Tryz.ntmps97
  go_wp2_with fail
  go_loopw [5] (fun iv wx => iv = .int .i64 0 ∧ wx = w) (fun _ _ => 0)
  case atStart => exact ⟨rfl, rfl⟩
  case round =>
    obtain ⟨rfl, rfl⟩ := hrel
    go_wp2_with fail
    go_ret
    exact ⟨rfl, Keeps.refl _ _⟩
set_option maxRecDepth 100000 in
set_option maxHeartbeats 1000000 in
theorem r6same_bare (w : World) (a b c d e f g : Int) :
    Calls Tryz.prog 76 #[.agg #[.int .u16 a, .int .u16 b, .int .u32 c, .int .u32 d, .int .u8 e, .int .u16 f, .int .u16 g, .slice none 0 0, .slice none 0 0], .agg #[.int .u16 a, .int .u16 b, .int .u32 c, .int .u32 d, .int .u8 e, .int .u16 f, .int .u16 g, .slice none 0 0, .slice none 0 0]] w fun e w' => e = .returned (.bool true) ∧ Keeps [] w w' := by
  have hcv : ∀ W : World, (convert 37 9 (.slice none 0 0)).run Tryz.prog W = .ok (.string ⟨#[]⟩) W := fun W => (BytesV.nil W).str0 (P := Tryz.prog) 37 9 5 Tryz.underlying37 Tryz.underlying5 Tryz.underlying9
  go_enter Tryz.func76, Tryz.ntmps76
  go_upto_region 1 with fail
  refine wp_gn (fun W1 hW1 => ?_)
  have k1 : Keeps [] w W1 := by rw [hW1]; exact (Keeps.alloc _ _ _).alloc' _
  have b2 : W1.heap[w.heap.size]? = some (.cells #[.int .u16 a, .int .u16 b, .int .u32 c, .int .u32 d, .int .u8 e, .int .u16 f, .int .u16 g, .slice none 0 0, .slice none 0 0] 39 (0, 0)) := by
    rw [hW1]
    have h := (MapKept.heap_alloc w (.cells #[.int .u16 a, .int .u16 b, .int .u32 c, .int .u32 d, .int .u8 e, .int .u16 f, .int .u16 g, .slice none 0 0, .slice none 0 0] 39 (0, 0))).1
    exact ((Keeps.alloc [] _ _).block _ (lt_of_block h) (List.not_mem_nil)).trans h
  have b3 : W1.heap[w.heap.size + 1]? = some (.cells #[.int .u16 a, .int .u16 b, .int .u32 c, .int .u32 d, .int .u8 e, .int .u16 f, .int .u16 g, .slice none 0 0, .slice none 0 0] 39 (0, 0)) := by
    rw [hW1]
    have h := (MapKept.heap_alloc (w.alloc (.cells #[.int .u16 a, .int .u16 b, .int .u32 c, .int .u32 d, .int .u8 e, .int .u16 f, .int .u16 g, .slice none 0 0, .slice none 0 0] 39 (0, 0))) (.cells #[.int .u16 a, .int .u16 b, .int .u32 c, .int .u32 d, .int .u8 e, .int .u16 f, .int .u16 g, .slice none 0 0, .slice none 0 0] 39 (0, 0))).1
    rwa [show (w.alloc (.cells #[.int .u16 a, .int .u16 b, .int .u32 c, .int .u32 d, .int .u8 e, .int .u16 f, .int .u16 g, .slice none 0 0, .slice none 0 0] 39 (0, 0))).heap.size = w.heap.size + 1 by simp] at h
  have K1 := Lib.hid k1
  have b2c0 := cell_of_block b2 0
  have b2c1 := cell_of_block b2 1
  have b2c2 := cell_of_block b2 2
  have b2c3 := cell_of_block b2 3
  have b2c4 := cell_of_block b2 4
  have b2c5 := cell_of_block b2 5
  have b2c6 := cell_of_block b2 6
  have b2c7 := cell_of_block b2 7
  have b2c8 := cell_of_block b2 8
  simp at b2c0 b2c1 b2c2 b2c3 b2c4 b2c5 b2c6 b2c7 b2c8
  have b3c0 := cell_of_block b3 0
  have b3c1 := cell_of_block b3 1
  have b3c2 := cell_of_block b3 2
  have b3c3 := cell_of_block b3 3
  have b3c4 := cell_of_block b3 4
  have b3c5 := cell_of_block b3 5
  have b3c6 := cell_of_block b3 6
  have b3c7 := cell_of_block b3 7
  have b3c8 := cell_of_block b3 8
  simp at b3c0 b3c1 b3c2 b3c3 b3c4 b3c5 b3c6 b3c7 b3c8
  clear hW1 k1 b2 b3
  go_wp2_with fail
  refine (r5same_nil _).mono ?_
  rintro e w1 ⟨rfl, k2⟩
  have q2 := cell_keeps k2 b2c8 (by simp)
  have q3 := cell_keeps k2 b3c8 (by simp)
  have K2 := Lib.hid (K1.out.trans k2)
  clear k2 b2c0 b2c1 b2c2 b2c3 b2c4 b2c5 b2c6 b2c7 b2c8 b3c0 b3c1 b3c2 b3c3 b3c4 b3c5 b3c6 b3c7 b3c8
  go_wp2_with fail
  go_ret
  exact ⟨rfl, K2.out⟩
/-- of two rows of at most one ACK, which is the same: they are the same -/
theorem r20same_told (w : World) {n m : Nat} {v1 v2 : Value} {is : Bool} {g : Seg} (h1 : Told n w v1 is g) (h2 : Told m w v2 is g) :
    Calls Tryz.prog 43 #[v1, v2] w fun e w' => e = .returned (.bool true) ∧ Keeps [] w w' := by
  rcases h1 with ⟨hi, rfl⟩ | ⟨hi, r1, rfl, _, hr1⟩ <;> rcases h2 with ⟨hj, rfl⟩ | ⟨hj, r2, rfl, _, hr2⟩
  · go_enter Tryz.func43, Tryz.ntmps43
    go_wp2_with fail
    go_loopw [5] (fun iv wx => iv = .int .i64 0 ∧ wx = w) (fun _ _ => 0)
    case atStart => exact ⟨rfl, rfl⟩
    case round =>
      obtain ⟨rfl, rfl⟩ := hrel
      go_wp2_with fail
      go_ret
      exact ⟨rfl, Keeps.refl _ _⟩
  · rw [hi] at hj; cases hj
  · rw [hi] at hj; cases hj
  · clear hi hj
    unfold segC at hr1 hr2
    have HR1 := Lib.hid hr1
    have HR2 := Lib.hid hr2
    clear hr1 hr2
    go_enter Tryz.func43, Tryz.ntmps43
    go_wp2_with fail
    go_loopw [5] (fun iv wx => ∃ j : Nat, iv = .int .i64 j ∧ j ≤ 1 ∧ Hid (Keeps [] w wx)) (fun iv _ => 1 - (intOf iv).toNat)
    case atStart => exact ⟨0, rfl, by omega, Lib.hid (Keeps.refl [] w)⟩
    case round =>
      obtain ⟨j, rfl, hj, hk⟩ := hrel
      by_cases hj0 : j = 0
      · subst hj0
        have h1 := (hk.out.block r1 (lt_of_block HR1.out) (by simp)).trans HR1.out
        have h2 := (hk.out.block r2 (lt_of_block HR2.out) (by simp)).trans HR2.out
        have h1c0 := cell_of_block h1 0
        have h1c1 := cell_of_block h1 1
        have h1c2 := cell_of_block h1 2
        have h1c3 := cell_of_block h1 3
        have h1c4 := cell_of_block h1 4
        have h1c5 := cell_of_block h1 5
        have h1c6 := cell_of_block h1 6
        have h1c7 := cell_of_block h1 7
        have h1c8 := cell_of_block h1 8
        simp at h1c0 h1c1 h1c2 h1c3 h1c4 h1c5 h1c6 h1c7 h1c8
        have h2c0 := cell_of_block h2 0
        have h2c1 := cell_of_block h2 1
        have h2c2 := cell_of_block h2 2
        have h2c3 := cell_of_block h2 3
        have h2c4 := cell_of_block h2 4
        have h2c5 := cell_of_block h2 5
        have h2c6 := cell_of_block h2 6
        have h2c7 := cell_of_block h2 7
        have h2c8 := cell_of_block h2 8
        simp at h2c0 h2c1 h2c2 h2c3 h2c4 h2c5 h2c6 h2c7 h2c8
        clear h1 h2
        go_upto_region 6 with fail
        go_region_held3 (fun w' => w'.cell? ⟨r1, 0, none⟩ = some (.int .u16 g.sp) ∧ w'.cell? ⟨r1, 1, none⟩ = some (.int .u16 g.dp) ∧ w'.cell? ⟨r1, 2, none⟩ = some (.int .u32 g.sq) ∧ w'.cell? ⟨r1, 3, none⟩ = some (.int .u32 g.ak) ∧ w'.cell? ⟨r1, 4, none⟩ = some (.int .u8 g.fl) ∧ w'.cell? ⟨r1, 5, none⟩ = some (.int .u16 g.wn) ∧ w'.cell? ⟨r1, 6, none⟩ = some (.int .u16 g.ug) ∧ w'.cell? ⟨r1, 7, none⟩ = some (.slice none 0 0) ∧ w'.cell? ⟨r1, 8, none⟩ = some (.slice none 0 0) ∧ w'.cell? ⟨r2, 0, none⟩ = some (.int .u16 g.sp) ∧ w'.cell? ⟨r2, 1, none⟩ = some (.int .u16 g.dp) ∧ w'.cell? ⟨r2, 2, none⟩ = some (.int .u32 g.sq) ∧ w'.cell? ⟨r2, 3, none⟩ = some (.int .u32 g.ak) ∧ w'.cell? ⟨r2, 4, none⟩ = some (.int .u8 g.fl) ∧ w'.cell? ⟨r2, 5, none⟩ = some (.int .u16 g.wn) ∧ w'.cell? ⟨r2, 6, none⟩ = some (.int .u16 g.ug) ∧ w'.cell? ⟨r2, 7, none⟩ = some (.slice none 0 0) ∧ w'.cell? ⟨r2, 8, none⟩ = some (.slice none 0 0)) ((refine (fun kx => ⟨cell_keeps kx h1c0 (by simp), cell_keeps kx h1c1 (by simp), cell_keeps kx h1c2 (by simp), cell_keeps kx h1c3 (by simp), cell_keeps kx h1c4 (by simp), cell_keeps kx h1c5 (by simp), cell_keeps kx h1c6 (by simp), cell_keeps kx h1c7 (by simp), cell_keeps kx h1c8 (by simp), cell_keeps kx h2c0 (by simp), cell_keeps kx h2c1 (by simp), cell_keeps kx h2c2 (by simp), cell_keeps kx h2c3 (by simp), cell_keeps kx h2c4 (by simp), cell_keeps kx h2c5 (by simp), cell_keeps kx h2c6 (by simp), cell_keeps kx h2c7 (by simp), cell_keeps kx h2c8 (by simp)⟩ : Keeps [] wr _ → _) ?_; (repeat (first | with_reducible assumption | with_reducible exact Keeps.refl _ _ | with_reducible apply Keeps.alloc' | with_reducible apply Keeps.drew' | with_reducible apply Keeps.drewN' | (with_reducible apply Keeps.setCell'; rotate_left; · simp))))) (first | (go_at_call 76; (with_reducible refine (r6same_bare _ _ _ _ _ _ _ _).mono ?_); rintro e w2 ⟨rfl, k2⟩; have kz : Keeps [] wr w2 := Keeps.trans (by (repeat (first | with_reducible assumption | with_reducible exact Keeps.refl _ _ | with_reducible apply Keeps.alloc' | with_reducible apply Keeps.drew' | with_reducible apply Keeps.drewN' | (with_reducible apply Keeps.setCell'; rotate_left; · simp)))) k2; have K2 := Lib.hid (hk.out.trans kz); clear k2) | fail)
        go_wp2_with fail
        exact ⟨⟨1, rfl, Nat.le_refl 1, K2⟩, Nat.zero_lt_one⟩
      · obtain rfl : j = 1 := by omega
        go_wp2_with fail
        go_ret
        exact ⟨rfl, hk.out⟩
end Go.Proofs.YtakgohocimlagaaGreat

namespace Go.Proofs.YtakgohocimlagaaGreat
open Go.RowKit
set_option linter.unusedVariables false
set_option linter.unusedSimpArgs false

def BS.len (s : BS) : Nat := (s.room - s.taken).toNat
theorem BS.put_get {s : BS} (ok : s.ok) {a : Int} (ha : U32 a) (data : List UInt8) (hd : data.length ≤ 1048576) (j : Nat) (hj : j < s.len) :
    AL.find (s.taken + j) (s.anew a data) = match AL.find (s.taken + j) s.m with
      | some x => some x
      | none => if aheadI s.next a ≤ j then data[((j : Int) - aheadI s.next a).toNat]? else none := by
  unfold BS.anew
  rw [insL_find]
  cases hf : AL.find (s.taken + j) s.m with
  | some x => rfl
  | none =>
    simp only []
    have hn := s.next_bd
    have t0 := ok.t0
    have tr := ok.tr
    have r := ok.r
    have hjl : (j : Int) < s.room - s.taken := by unfold BS.len at hj; omega
    obtain ⟨a0, a1⟩ := ha
    obtain ⟨n0, n1⟩ := hn
    unfold BS.place BS.cut cutI
    have hz : aheadI s.next s.next = 0 := by unfold aheadI; simp
    have e1 : (cutA a s.next) = max (-(aheadI s.next a)) 0 := rfl
    have e2 : (cutB a data.length s.next (s.room - s.taken)) = min (s.room - s.taken - aheadI s.next a) data.length := rfl
    split
    · rename_i hge
      simp only [hz]
      rw [e1, e2] at hge
      rw [if_pos (by omega), List.getElem?_nil]
      symm
      by_cases h1 : aheadI s.next a ≤ j
      · rw [if_pos h1]
        exact List.getElem?_eq_none (by omega)
      · rw [if_neg h1]
    · rename_i hlt
      have hc : aheadI s.next (addI a (cutA a s.next)) = aheadI s.next a + cutA a s.next := by
        rw [e1, e2] at hlt
        rw [e1]
        have hb := aheadI_bd s.next a
        have h1 : aheadI s.next a = (a - s.next) % 4294967296 ∨ aheadI s.next a = (a - s.next) % 4294967296 - 4294967296 := by unfold aheadI; split <;> simp
        generalize aheadI s.next a = off at *
        unfold aheadI addI
        have h2 : ((a + max (-off) 0) % 4294967296 - s.next) % 4294967296 = off + max (-off) 0 := by
          rcases h1 with h1 | h1 <;> omega
        rw [h2]
        split <;> omega
      simp only [hc]
      rw [e1, e2] at hlt ⊢
      generalize aheadI s.next a = off at *
      by_cases h1 : off ≤ j
      · rw [if_pos h1, if_pos (by omega), List.getElem?_take, List.getElem?_drop]
        by_cases h2 : ((s.taken + (j : Int)) - (s.taken + (off + max (-off) 0))).toNat < (min (s.room - s.taken - off) (data.length : Int)).toNat - (max (-off) 0).toNat
        · rw [if_pos h2]
          congr 1
          omega
        · rw [if_neg h2]
          exact (List.getElem?_eq_none (by omega)).symm
      · rw [if_neg h1]
        by_cases h3 : s.taken + (off + max (-off) 0) ≤ s.taken + (j : Int)
        · omega
        · rw [if_neg h3]
theorem BS.take_ready {s : BS} (ok : s.ok) : s.take.ready = 0 := by
  have h := BS.ready_end ok
  have h2 : AL.find s.take.taken s.take.m = none := by
    show AL.find (s.taken + s.ready) (delN s.m s.taken s.ready) = none
    rw [delN_find ok.nd, if_neg (by omega)]
    exact h
  unfold BS.ready
  generalize (s.take.room - s.take.taken).toNat = f
  cases f with
  | zero => rfl
  | succ f => simp only [rdy, h2]
theorem BS.take_none {s : BS} (r0 : s.ready = 0) : s.take = s := by
  unfold BS.take
  rw [r0]
  simp [delN]
theorem ahead_shift {f x y q : Int} (hq : U32 q) (d : Int) (h1 : 0 ≤ y - x) (h2 : y - x ≤ 16384) (h3 : aheadI (addI f y) q ≤ 0) (h4 : -(aheadI (addI f y) q) < d) (h5 : d ≤ 1048576) : aheadI (addI f x) q = aheadI (addI f y) q + (y - x) := by
  obtain ⟨q0, q1⟩ := hq
  revert h3 h4
  unfold aheadI addI
  split <;> split <;> intro h3 h4 <;> omega
/-- the same bytes put once more: nothing is ready -/
theorem put_again {s : BS} (ok : s.ok) (r0 : s.ready = 0) {q : Int} (hq : U32 q) (d : List UInt8) (hd : d.length ≤ 1048576) : ((s.put q d).take.put q d).ready = 0 := by
  by_cases hh : 16 < s.holes q d
  · have e : s.put q d = s := by unfold BS.put; rw [if_pos hh]
    rw [e, BS.take_none r0, e]
    exact r0
  · have e : s.put q d = { s with m := s.anew q d } := by unfold BS.put; rw [if_neg hh]
    have ok1 : (s.put q d).ok := BS.put_ok ok hq d hd
    rw [e] at ok1 ⊢
    generalize hs1 : ({ s with m := s.anew q d } : BS) = s1 at *
    have ok2 := BS.take_ok ok1
    have hr := BS.ready_le ok1
    by_cases h2 : 16 < s1.take.holes q d
    · unfold BS.put
      rw [if_pos h2]
      exact BS.take_ready ok1
    · unfold BS.put
      rw [if_neg h2]
      unfold BS.ready
      simp only []
      obtain ⟨f, hf⟩ : ∃ f, (s1.take.room - s1.take.taken).toNat = f := ⟨_, rfl⟩
      rw [hf]
      cases f with
      | zero => rfl
      | succ f =>
        have hz : AL.find s1.take.taken (s1.take.anew q d) = none := by
          have h0 := BS.put_get ok2 hq d hd 0 (by unfold BS.len; omega)
          simp only [Int.natCast_zero, Int.add_zero] at h0
          rw [h0]
          have he : AL.find s1.take.taken s1.take.m = none := by
            show AL.find (s1.taken + s1.ready) (delN s1.m s1.taken s1.ready) = none
            rw [delN_find ok1.nd, if_neg (by omega)]
            exact BS.ready_end ok1
          rw [he]
          simp only []
          split
          · rename_i ha
            have hE := BS.ready_end ok1
            have hm : s1.m = s.anew q d := by rw [← hs1]
            have ht : s1.taken = s.taken := by rw [← hs1]
            have hrm : s1.room = s.room := by rw [← hs1]
            have hfi : s1.first = s.first := by rw [← hs1]
            have htk : s1.take.taken = s1.taken + s1.ready := rfl
            have hrk : s1.take.room = s1.room := rfl
            have h1 := BS.put_get ok hq d hd s1.ready (by unfold BS.len; omega)
            rw [← hm, ← ht, hE] at h1
            refine List.getElem?_eq_none (Nat.le_of_not_lt fun hlt => ?_)
            have hn : s1.take.next = addI s.first (s.taken + s1.ready) := by unfold BS.next; rw [htk, ht]; show addI s1.first _ = _; rw [hfi]
            have hn0 : s.next = addI s.first s.taken := rfl
            rw [hn] at ha hlt
            have t0 := ok.t0
            have tr := ok.tr
            have rr := ok.r
            have hsh := ahead_shift (f := s.first) (x := s.taken) (y := s.taken + s1.ready) hq d.length (by omega) (by omega) ha (by omega) (by omega)
            rw [hn0, hsh] at h1
            generalize aheadI (addI s.first (s.taken + (s1.ready : Int))) q = a2 at *
            cases hx : AL.find (s1.taken + s1.ready) s.m with
            | some x => rw [hx] at h1; cases h1
            | none =>
              rw [hx] at h1
              simp only [] at h1
              rw [if_pos (by omega)] at h1
              have := List.getElem?_eq_none_iff.1 h1.symm
              omega
          · rfl
        simp only [rdy, hz]
end Go.Proofs.YtakgohocimlagaaGreat

