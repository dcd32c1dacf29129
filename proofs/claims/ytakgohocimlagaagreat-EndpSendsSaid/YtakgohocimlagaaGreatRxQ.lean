/-
  Rows of structs, of any kind: what lies in them, a row of the call's own, append. Of no program. No condition but that the rows are not long. A resending buffer's plain state (package rexmit), as it lies in memory; what a store does to it. No condition. The walks of package rexmit (1): none, Una, Nxt, End, Alarm, anew, New, Write, Acked. Condition: a buffer's numbers are in the ranges of their kinds. The walks of package rexmit (2): Acked. Condition: a buffer's numbers are in the ranges of their kinds. The walks of package rexmit (3): piece. Condition: a buffer's numbers are in the ranges of their kinds. The walks of package rexmit (4): Tick where it is time. Condition: a buffer's numbers are in the ranges of their kinds. The walks of package rexmit (5): New; Tick where it was tried too often. Condition: a buffer's numbers are in the ranges of their kinds. The walks of package rexmit (6): rows of pieces; Send. Condition: a buffer's numbers are in the ranges of their kinds.
-/
import Derived.Test.YtakgohocimlagaaGreatKitB
import Derived.Maps.AppendAt
import Derived.Test.YtakgohocimlagaaGreatSegs
import Derived.Test.YtakgohocimlagaaGreatEpX
import Derived.Test.YtakgohocimlagaaGreatEpY
namespace Go.Proofs.YtakgohocimlagaaGreat
open Go.RowKit Go.Lib
set_option linter.unusedVariables false
set_option linter.unusedSimpArgs false

/-- a kind of elements: their cells, how many, each one cell -/
structure EK (α : Type) where
  cf : α → List Value
  sz : Nat
  len : ∀ x, (cf x).length = sz
  pos : 0 < sz
  one : ∀ x, ∀ u ∈ cf x, u.oneCell' = true
variable {α : Type} (e : EK α)
def EK.row (l : List α) : List Value := l.flatMap e.cf
theorem EK.row_len (l : List α) : (e.row l).length = l.length * e.sz := by
  induction l with
  | nil => simp [EK.row]
  | cons a t ih => unfold EK.row at ih ⊢; rw [List.flatMap_cons, List.length_append, ih, List.length_cons, e.len, Nat.add_mul]; omega
theorem EK.row_at : ∀ (l : List α) (i : Nat) {x : α}, l[i]? = some x → ∀ j, j < e.sz → (e.row l)[i * e.sz + j]? = (e.cf x)[j]?
  | [], i, x, h, j, hj => by simp at h
  | a :: t, 0, x, h, j, hj => by
    simp at h
    subst h
    unfold EK.row
    rw [List.flatMap_cons, List.getElem?_append_left (by rw [e.len]; omega)]
    simp
  | a :: t, i + 1, x, h, j, hj => by
    have h' : t[i]? = some x := by simpa using h
    have ih := EK.row_at t i h' j hj
    unfold EK.row at ih ⊢
    have hm : (i + 1) * e.sz = i * e.sz + e.sz := by rw [Nat.add_mul]; omega
    rw [List.flatMap_cons, List.getElem?_append_right (by rw [e.len]; omega)]
    have e1 : (i + 1) * e.sz + j - (e.cf a).length = i * e.sz + j := by rw [e.len]; omega
    rw [e1]; exact ih
theorem EK.row_get {l : List α} {k : Nat} {u : Value} (h : (e.row l)[k]? = some u) : ∃ x, l[k / e.sz]? = some x ∧ (e.cf x)[k % e.sz]? = some u := by
  have hk := (List.getElem?_eq_some_iff.1 h).1
  rw [e.row_len] at hk
  have hi : k / e.sz < l.length := (Nat.div_lt_iff_lt_mul e.pos).2 hk
  refine ⟨l[k / e.sz], List.getElem?_eq_getElem hi, ?_⟩
  have h1 := e.row_at l (k / e.sz) (List.getElem?_eq_getElem hi) (k % e.sz) (Nat.mod_lt _ e.pos)
  have h2 : k / e.sz * e.sz + k % e.sz = k := by rw [Nat.mul_comm]; exact Nat.div_add_mod k e.sz
  rw [h2] at h1
  rw [← h1]; exact h
theorem EK.row_one (l : List α) : ∀ u ∈ e.row l, u.oneCell' = true := by
  intro u hu
  obtain ⟨x, _, h⟩ := List.mem_flatMap.1 hu
  exact e.one x u h
theorem EK.row_append (a b : List α) : e.row (a ++ b) = e.row a ++ e.row b := by unfold EK.row; rw [List.flatMap_append]
/-- the elements lie there -/
def EK.At (w : World) (A : Option Addr) (l : List α) : Prop := l = [] ∨ ∃ b o, A = some ⟨b, o, none⟩ ∧ ∀ (i : Nat) (x : α), l[i]? = some x → ∀ (j : Nat) (u : Value), (e.cf x)[j]? = some u → w.cell? ⟨b, o + i * e.sz + j, none⟩ = some u
theorem EK.At.keep {e : EK α} {w w' : World} {A : Option Addr} {l : List α} {S : List Nat} (h : e.At w A l) (k : Keeps S w w') (hS : ∀ b ∈ S, ∀ o, A ≠ some ⟨b, o, none⟩) : e.At w' A l := by
  rcases h with h | ⟨b, o, h1, h2⟩
  · exact .inl h
  · exact .inr ⟨b, o, h1, fun i x hx j u hu => cell_keeps k (h2 i x hx j u hu) (fun hm => hS b hm o h1)⟩
theorem EK.At.keep0 {e : EK α} {w w' : World} {A : Option Addr} {l : List α} (h : e.At w A l) (k : Keeps [] w w') : e.At w' A l := h.keep k (by simp)
/-- a row of the call's own -/
def EK.Own (w : World) (base : Nat) (el : TypeId) (v : Value) (l : List α) : Prop := w.ownsRow base el e.sz v l.length (e.row l)
theorem EK.Own.nil (w : World) (base : Nat) (el : TypeId) : e.Own w base el (.slice none 0 0) [] := World.ownsRow_nil _ _ _ _
theorem EK.Own.keep0 {e : EK α} {w w' : World} {base : Nat} {el : TypeId} {v : Value} {l : List α} (h : e.Own w base el v l) (k : Keeps [] w w') : e.Own w' base el v l := own_keeps h k
theorem EK.Own.at_ {e : EK α} {w : World} {base : Nat} {el : TypeId} {v : Value} {l : List α} (h : e.Own w base el v l) : ∃ A c, v = .slice A l.length c ∧ e.At w A l ∧ l.length ≤ c ∧ c ≤ maxLen ∧ (∀ a, A = some a → base ≤ a.block ∧ v.ownBlock = some a.block) := by
  rcases h.2 with ⟨rfl, h0⟩ | ⟨g, cap, cur, rfl, hb, hg, hnc, hm, hsz, ht⟩
  · have : l = [] := List.eq_nil_of_length_eq_zero h0
    subst this
    exact ⟨none, 0, rfl, .inl rfl, by simp, by simp [maxLen], fun a ha => by cases ha⟩
  · refine ⟨_, cap, rfl, .inr ⟨g, 0, rfl, fun i x hx j u hu => ?_⟩, hnc, hm, fun a ha => by cases ha; exact ⟨hb, rfl⟩⟩
    have hj : j < e.sz := by have := (List.getElem?_eq_some_iff.1 hu).1; rw [e.len] at this; exact this
    have := World.ownsRow.cells h (g := g) rfl (i * e.sz + j) u (by rw [e.row_at l i hx j hj]; exact hu)
    rw [show (⟨g, 0, none⟩ : Addr).add (i * e.sz + j) = ⟨g, 0 + i * e.sz + j, none⟩ by unfold Addr.add; split <;> simp_all] at this
    exact this
theorem run_append_E {P : Program} (w : World) (base t ty el : Nat) (ht : P.underlying t = some (.slice el)) {zr : Value} {bb : Nat} (hi : (P.info? el).map (fun i => (i.zero, i.size, i.bytes)) = some (some zr, e.sz, bb)) (hzr : zr.cells.size = e.sz) (hbb : bb ≤ 256)
    (v : Value) (l1 : List α) (hown : e.Own w base el v l1) (A : Option Addr) (c : Nat) (l2 : List α) (hl : e.At w A l2) (hA : A = none → l2 = []) (hz : l1.length + l2.length ≤ 100000) (hbase : base ≤ w.heap.size) :
    ∃ v' w', (Builtin.append_ #[t, t] ty #[v, .slice A l2.length c]).run P w = .ok v' w' ∧ e.Own w' base el v' (l1 ++ l2) ∧ w.grownBy w' v.ownBlock ∧ (v'.ownBlock = v.ownBlock ∨ v'.ownBlock = some w.heap.size) := by
  obtain ⟨i0, hi0, hz0, hz1, hz2⟩ := info_parts hi
  rcases A with _ | a
  · have h2 := hA rfl
    subst h2
    refine ⟨v, w, ?_, by simpa using hown, World.grownBy.refl w _, .inl rfl⟩
    rcases hown.2 with ⟨rfl, h0⟩ | ⟨g, cap, cur, rfl, _, _, hnc, _⟩
    · simp [Builtin.append_, run_underlying ht, sizeOf, typeInfo, hi0, Builtin.lenOf, Builtin.firstCells]
    · simp [Builtin.append_, run_underlying ht, sizeOf, typeInfo, hi0, Builtin.lenOf, Builtin.firstCells, hnc, storeCells]
  · have hcells : ∀ j u, (e.row l2)[j]? = some u → w.cell? (a.add j) = some u := by
      intro j u hu
      obtain ⟨x, hx, hxu⟩ := e.row_get hu
      rcases hl with rfl | ⟨b, o, h1, hc⟩
      · simp at hx
      · injection h1 with h1
        subst h1
        have h3 := hc _ x hx _ u hxu
        have h2 : j / e.sz * e.sz + j % e.sz = j := by rw [Nat.mul_comm]; exact Nat.div_add_mod j e.sz
        rw [Nat.add_assoc, h2] at h3
        rw [show (⟨b, o, none⟩ : Addr).add j = ⟨b, o + j, none⟩ by unfold Addr.add; split <;> simp_all]
        exact h3
    obtain ⟨v', w', hrun, h2', h3', h4', h5'⟩ := run_append_own_at (P := P) w base t ty el i0 _ e.sz bb ht hi0 hz0 hz1 hz2 hzr (by have := e.pos; omega) v l1.length (e.row l1) hown a l2.length c (e.row l2) (by rw [e.row_len]) hcells (e.row_one l2) (by simp only [maxLen]; omega)
      (Nat.le_trans (Nat.mul_le_mul hz hbb) (by omega)) hbase
    refine ⟨v', w', hrun, ?_, h3', h5'⟩
    unfold EK.Own
    rw [List.length_append, e.row_append]
    exact h2'
/-- append as one step of a region that draws -/
theorem step_append_E {P : Program} {o : Oper} {a : Act} {w : World} {K : Act → World → Prop} {Q : Exit → Act → World → Prop} (s x : Operand) (t el base : Nat)
    (hop : o.op = Op.call { callee := Callee.builtin Builtin.append, args := #[s, x], argTypes := #[t, t] }) (ht : P.underlying t = some (.slice el)) {zr : Value} {bb : Nat} (hi : (P.info? el).map (fun i => (i.zero, i.size, i.bytes)) = some (some zr, e.sz, bb)) (hzr : zr.cells.size = e.sz) (hbb : bb ≤ 256)
    (v : Value) (l1 : List α) (hs : a.eval s = v) (hown : e.Own w base el v l1) (A : Option Addr) (c : Nat) (l2 : List α) (hx : a.eval x = .slice A l2.length c) (hl : e.At w A l2) (hA : A = none → l2 = []) (hz : l1.length + l2.length ≤ 100000) (hbase : base ≤ w.heap.size)
    (h : ∀ v' w', e.Own w' base el v' (l1 ++ l2) → w.grownBy w' v.ownBlock → (v'.ownBlock = v.ownBlock ∨ v'.ownBlock = some w.heap.size) → K (a.put o.dst v') w') : Oper.wp P o a w K Q := by
  obtain ⟨v', w', hrun, h2, h3, h4⟩ := run_append_E e w base t o.type el ht hi hzr hbb v l1 hown A c l2 hl hA hz hbase
  unfold Oper.wp
  simp only [execOp, hop, resolve, invoke, builtin, Sem.run_bind, Sem.run_pure, Result.andThen_ok, List.map_toArray, List.map_cons, List.map_nil, hs, hx, hrun]
  exact h v' w' h2 h3 h4
/-- append at a plain region's list -/
theorem wpList_append_E {P : Program} {ops : Array Oper} {rest : List Oper} {o : Oper} {a : Act} {w : World} {Q : Exit → Act → World → Prop} (hg : o.guard = none) (s x : Operand) (t el base : Nat)
    (hop : o.op = Op.call { callee := Callee.builtin Builtin.append, args := #[s, x], argTypes := #[t, t] }) (ht : P.underlying t = some (.slice el)) {zr : Value} {bb : Nat} (hi : (P.info? el).map (fun i => (i.zero, i.size, i.bytes)) = some (some zr, e.sz, bb)) (hzr : zr.cells.size = e.sz) (hbb : bb ≤ 256)
    (v : Value) (l1 : List α) (hs : a.eval s = v) (hown : e.Own w base el v l1) (A : Option Addr) (c : Nat) (l2 : List α) (hx : a.eval x = .slice A l2.length c) (hl : e.At w A l2) (hA : A = none → l2 = []) (hz : l1.length + l2.length ≤ 100000) (hbase : base ≤ w.heap.size)
    (h : ∀ v' w', e.Own w' base el v' (l1 ++ l2) → w.grownBy w' v.ownBlock → (v'.ownBlock = v.ownBlock ∨ v'.ownBlock = some w.heap.size) → wpList P ops Q rest (a.put o.dst v') w') : wpList P ops Q (o :: rest) a w := by
  refine wpList_plain hg fun K' hK' => ?_
  obtain ⟨v', w', hrun, h2, h3, h4⟩ := run_append_E e w base t o.type el ht hi hzr hbb v l1 hown A c l2 hl hA hz hbase
  unfold Oper.wp execOp
  simp only [hop, resolve, invoke, builtin, Sem.run_bind, Sem.run_pure, Result.andThen_ok, List.map_toArray, List.map_cons, List.map_nil, hs, hx, hrun]
  exact hK' _ _ (h v' w' h2 h3 h4)
end Go.Proofs.YtakgohocimlagaaGreat

namespace Go.Proofs.YtakgohocimlagaaGreat
open Go.RowKit
set_option linter.unusedVariables false
set_option linter.unusedSimpArgs false

/-- A resending buffer's plain state. -/
structure RX where
  dataA : Option Addr
  data : List UInt8
  dataC : Nat
  una : Int
  sent : Int
  win : Int
  rto : Int
  tries : Int
  wait : Int
  cnt : Int
  alarm : Int
def RX.cells (s : RX) : Array Value := #[.slice s.dataA s.data.length s.dataC, .int .u32 s.una, .int .i64 s.sent, .int .u32 s.win, .int .u64 s.rto, .int .i64 s.tries, .int .u64 s.wait, .int .i64 s.cnt, .int .u64 s.alarm]
/-- Block b of w is the buffer s. -/
structure RxAt (w : World) (b : Nat) (s : RX) : Prop where
  head : w.heap[b]? = some (.cells s.cells 97 (0, 0))
  data : BytesV w (.slice s.dataA s.data.length s.dataC) s.data
theorem RxAt.lt {w : World} {b : Nat} {s : RX} (h : RxAt w b s) : b < w.heap.size := (Array.getElem?_eq_some_iff.1 h.head).1
theorem RxAt.fz {w : World} {b : Nat} {s : RX} (h : RxAt w b s) (k : Nat) : w.frozen? ⟨b, k, none⟩ = false := free_of_block h.head k
theorem RxAt.no {w : World} {b : Nat} {s : RX} (h : RxAt w b s) : NoU8 w b := by
  intro i x hx
  rw [cell_of_block h.head i] at hx
  match i, hx with
  | 0, hx => simp [RX.cells] at hx
  | 1, hx => simp [RX.cells] at hx
  | 2, hx => simp [RX.cells] at hx
  | 3, hx => simp [RX.cells] at hx
  | 4, hx => simp [RX.cells] at hx
  | 5, hx => simp [RX.cells] at hx
  | 6, hx => simp [RX.cells] at hx
  | 7, hx => simp [RX.cells] at hx
  | 8, hx => simp [RX.cells] at hx
  | i + 9, hx => simp [RX.cells] at hx
theorem RxAt.c0 {w : World} {b : Nat} {s : RX} (h : RxAt w b s) : w.cell? ⟨b, 0, none⟩ = some (.slice s.dataA s.data.length s.dataC) := cell_of_block h.head 0
theorem RxAt.c1 {w : World} {b : Nat} {s : RX} (h : RxAt w b s) : w.cell? ⟨b, 1, none⟩ = some (.int .u32 s.una) := cell_of_block h.head 1
theorem RxAt.c2 {w : World} {b : Nat} {s : RX} (h : RxAt w b s) : w.cell? ⟨b, 2, none⟩ = some (.int .i64 s.sent) := cell_of_block h.head 2
theorem RxAt.c3 {w : World} {b : Nat} {s : RX} (h : RxAt w b s) : w.cell? ⟨b, 3, none⟩ = some (.int .u32 s.win) := cell_of_block h.head 3
theorem RxAt.c4 {w : World} {b : Nat} {s : RX} (h : RxAt w b s) : w.cell? ⟨b, 4, none⟩ = some (.int .u64 s.rto) := cell_of_block h.head 4
theorem RxAt.c5 {w : World} {b : Nat} {s : RX} (h : RxAt w b s) : w.cell? ⟨b, 5, none⟩ = some (.int .i64 s.tries) := cell_of_block h.head 5
theorem RxAt.c6 {w : World} {b : Nat} {s : RX} (h : RxAt w b s) : w.cell? ⟨b, 6, none⟩ = some (.int .u64 s.wait) := cell_of_block h.head 6
theorem RxAt.c7 {w : World} {b : Nat} {s : RX} (h : RxAt w b s) : w.cell? ⟨b, 7, none⟩ = some (.int .i64 s.cnt) := cell_of_block h.head 7
theorem RxAt.c8 {w : World} {b : Nat} {s : RX} (h : RxAt w b s) : w.cell? ⟨b, 8, none⟩ = some (.int .u64 s.alarm) := cell_of_block h.head 8
theorem RxAt.keep0 {w w' : World} {b : Nat} {s : RX} (h : RxAt w b s) (k : Keeps [] w w') : RxAt w' b s :=
  ⟨(k.block b h.lt (by simp)).trans h.head, h.data.keep0 k⟩
/-- another block, which holds no byte, was changed -/
theorem RxAt.other {w w' : World} {b b' : Nat} {s : RX} (h : RxAt w b s) (k : Keeps [b'] w w') (hne : b ≠ b') (hno : NoU8 w b') : RxAt w' b s :=
  ⟨(k.block b h.lt (by simpa using hne)).trans h.head, h.data.keep k hno⟩
theorem RxAt.upd {w w' : World} {b : Nat} {s s' : RX} (h : RxAt w b s) (k : Keeps [b] w w') (hh : w'.heap[b]? = some (.cells s'.cells 97 (0, 0)))
    (o1 : s'.dataA = s.dataA) (o2 : s'.data = s.data) (o3 : s'.dataC = s.dataC) : RxAt w' b s' :=
  ⟨hh, by rw [o1, o2, o3]; exact h.data.keep k h.no⟩

theorem RxAt.s1 {w : World} {b : Nat} {s : RX} (h : RxAt w b s) (x : Int) : RxAt (w.setCell ⟨b, 1, none⟩ (.int .u32 x)) b { s with una := x } :=
  h.upd (Keeps.setCell w ⟨b, 1, none⟩ _) (by rw [heap_setCell_self h.head]; rfl) rfl rfl rfl
theorem RxAt.s2 {w : World} {b : Nat} {s : RX} (h : RxAt w b s) (x : Int) : RxAt (w.setCell ⟨b, 2, none⟩ (.int .i64 x)) b { s with sent := x } :=
  h.upd (Keeps.setCell w ⟨b, 2, none⟩ _) (by rw [heap_setCell_self h.head]; rfl) rfl rfl rfl
theorem RxAt.s3 {w : World} {b : Nat} {s : RX} (h : RxAt w b s) (x : Int) : RxAt (w.setCell ⟨b, 3, none⟩ (.int .u32 x)) b { s with win := x } :=
  h.upd (Keeps.setCell w ⟨b, 3, none⟩ _) (by rw [heap_setCell_self h.head]; rfl) rfl rfl rfl
theorem RxAt.s4 {w : World} {b : Nat} {s : RX} (h : RxAt w b s) (x : Int) : RxAt (w.setCell ⟨b, 4, none⟩ (.int .u64 x)) b { s with rto := x } :=
  h.upd (Keeps.setCell w ⟨b, 4, none⟩ _) (by rw [heap_setCell_self h.head]; rfl) rfl rfl rfl
theorem RxAt.s5 {w : World} {b : Nat} {s : RX} (h : RxAt w b s) (x : Int) : RxAt (w.setCell ⟨b, 5, none⟩ (.int .i64 x)) b { s with tries := x } :=
  h.upd (Keeps.setCell w ⟨b, 5, none⟩ _) (by rw [heap_setCell_self h.head]; rfl) rfl rfl rfl
theorem RxAt.s6 {w : World} {b : Nat} {s : RX} (h : RxAt w b s) (x : Int) : RxAt (w.setCell ⟨b, 6, none⟩ (.int .u64 x)) b { s with wait := x } :=
  h.upd (Keeps.setCell w ⟨b, 6, none⟩ _) (by rw [heap_setCell_self h.head]; rfl) rfl rfl rfl
theorem RxAt.s7 {w : World} {b : Nat} {s : RX} (h : RxAt w b s) (x : Int) : RxAt (w.setCell ⟨b, 7, none⟩ (.int .i64 x)) b { s with cnt := x } :=
  h.upd (Keeps.setCell w ⟨b, 7, none⟩ _) (by rw [heap_setCell_self h.head]; rfl) rfl rfl rfl
theorem RxAt.s8 {w : World} {b : Nat} {s : RX} (h : RxAt w b s) (x : Int) : RxAt (w.setCell ⟨b, 8, none⟩ (.int .u64 x)) b { s with alarm := x } :=
  h.upd (Keeps.setCell w ⟨b, 8, none⟩ _) (by rw [heap_setCell_self h.head]; rfl) rfl rfl rfl
theorem RxAt.s0 {w : World} {b : Nat} {s : RX} (h : RxAt w b s) (A : Option Addr) (l : List UInt8) (c : Nat) (hb : BytesV w (.slice A l.length c) l) : RxAt (w.setCell ⟨b, 0, none⟩ (.slice A l.length c)) b { s with dataA := A, data := l, dataC := c } :=
  ⟨by rw [heap_setCell_self h.head]; rfl, hb.keep (Keeps.setCell w ⟨b, 0, none⟩ _) h.no⟩
end Go.Proofs.YtakgohocimlagaaGreat

namespace Go.Proofs.YtakgohocimlagaaGreat
open Go.RowKit
set_option linter.unusedVariables false
set_option linter.unusedSimpArgs false

/-- The buffer's numbers are in their ranges. -/
structure RX.Ok (s : RX) : Prop where
  una : U32 s.una
  len : s.data.length ≤ 16384
  sent : 0 ≤ s.sent ∧ s.sent ≤ s.data.length
  win : 0 ≤ s.win ∧ s.win ≤ 1073741824
  rto : 1 ≤ s.rto ∧ s.rto ≤ 1073741824
  tries : 1 ≤ s.tries ∧ s.tries ≤ 10
  cnt : 0 ≤ s.cnt ∧ s.cnt ≤ 10
set_option maxHeartbeats 400000 in
theorem xnone_no {w : World} {b : Nat} {s : RX} (h : RxAt w b s) (hr : 1 ≤ s.rto) : Calls Tryz.prog 58 #[.pointer (some ⟨b, 0, none⟩)] w fun e w' => e = .returned (.bool false) ∧ w = w' := by
  have c4 := h.c4
  have e1 : (s.rto == 0) = false := by simp; omega
  clear h
  go_enter Tryz.func58, Tryz.ntmps58
  go_wp2
  go_ret
  exact ⟨rfl, rfl⟩
set_option maxHeartbeats 400000 in
theorem xuna_any {w : World} {b : Nat} {s : RX} (h : RxAt w b s) (hr : 1 ≤ s.rto) : Calls Tryz.prog 51 #[.pointer (some ⟨b, 0, none⟩)] w fun e w' => e = .returned (.int .u32 s.una) ∧ w = w' := by
  have c1 := h.c1
  have CN := Lib.hid (xnone_no h hr)
  clear h
  go_enter Tryz.func51, Tryz.ntmps51
  go_wp2_with fail
  refine CN.out.mono ?_
  rintro e w1 ⟨rfl, rfl⟩
  go_wp2_with fail
  go_ret
  exact ⟨rfl, rfl⟩
set_option maxHeartbeats 800000 in
theorem xnxt_any {w : World} {b : Nat} {s : RX} (h : RxAt w b s) (ok : s.Ok) : Calls Tryz.prog 37 #[.pointer (some ⟨b, 0, none⟩)] w fun e w' => e = .returned (.int .u32 (addI s.una s.sent)) ∧ Keeps [] w w' := by
  have c1 := h.c1
  have c2 := h.c2
  have CN := Lib.hid (xnone_no h ok.rto.1)
  have HA := Lib.hid (fun W => add_any W s.una s.sent ok.una)
  clear h ok
  go_enter Tryz.func37, Tryz.ntmps37
  go_wp2_with fail
  refine CN.out.mono ?_
  rintro e w1 ⟨rfl, rfl⟩
  go_upto_region 3 with fail
  go_region_held3 (fun w' => w'.cell? ⟨b, 1, none⟩ = some (.int .u32 s.una) ∧ w'.cell? ⟨b, 2, none⟩ = some (.int .i64 s.sent)) (go_keep) (first | (go_at_call 60; (with_reducible refine (HA.out _).mono ?_); rintro e w2 ⟨rfl, rfl⟩) | fail)
  go_wp2_with fail
  go_ret
  exact ⟨rfl, Keeps.drew [] w⟩
set_option maxHeartbeats 800000 in
theorem xend_any {w : World} {b : Nat} {s : RX} (h : RxAt w b s) (ok : s.Ok) : Calls Tryz.prog 52 #[.pointer (some ⟨b, 0, none⟩)] w fun e w' => e = .returned (.int .u32 (addI s.una s.data.length)) ∧ Keeps [] w w' := by
  have c1 := h.c1
  have c0 := h.c0
  have CN := Lib.hid (xnone_no h ok.rto.1)
  have HA := Lib.hid (fun W => add_any W s.una s.data.length ok.una)
  clear h ok
  go_enter Tryz.func52, Tryz.ntmps52
  go_wp2_with fail
  refine CN.out.mono ?_
  rintro e w1 ⟨rfl, rfl⟩
  go_upto_region 3 with fail
  go_region_held3 (fun w' => w'.cell? ⟨b, 1, none⟩ = some (.int .u32 s.una) ∧ w'.cell? ⟨b, 0, none⟩ = some (.slice s.dataA s.data.length s.dataC)) (go_keep) (first | (go_at_call 60; (with_reducible refine (HA.out _).mono ?_); rintro e w2 ⟨rfl, rfl⟩) | fail)
  go_wp2_with fail
  go_ret
  exact ⟨rfl, Keeps.drew [] w⟩
set_option maxHeartbeats 800000 in
/-- bytes are to be acknowledged: the alarm is set -/
theorem xalarm_some {w : World} {b : Nat} {s : RX} (h : RxAt w b s) (hr : 1 ≤ s.rto) (hl : 0 < s.data.length) : Calls Tryz.prog 47 #[.pointer (some ⟨b, 0, none⟩)] w fun e w' => e = .returned (.tuple #[.int .u64 s.alarm, .bool true]) ∧ w = w' := by
  have c0 := h.c0
  have c8 := h.c8
  have e1 : ((s.data.length : Int) == 0) = false := beq_eq_false_iff_ne.mpr (by omega)
  have CN := Lib.hid (xnone_no h hr)
  clear h hl
  go_enter Tryz.func47, Tryz.ntmps47
  go_wp2_with fail
  refine CN.out.mono ?_
  rintro e w1 ⟨rfl, rfl⟩
  go_wp2_with fail
  go_ret2
  exact ⟨rfl, rfl⟩
set_option maxHeartbeats 800000 in
theorem xalarm_none {w : World} {b : Nat} {s : RX} (h : RxAt w b s) (hr : 1 ≤ s.rto) (hl : s.data.length = 0) : Calls Tryz.prog 47 #[.pointer (some ⟨b, 0, none⟩)] w fun e w' => e = .returned (.tuple #[.int .u64 0, .bool false]) ∧ w = w' := by
  have c0 := h.c0
  rw [hl] at c0
  have CN := Lib.hid (xnone_no h hr)
  clear h hl
  go_enter Tryz.func47, Tryz.ntmps47
  go_wp2_with fail
  refine CN.out.mono ?_
  rintro e w1 ⟨rfl, rfl⟩
  go_wp2_with fail
  go_ret2
  exact ⟨rfl, rfl⟩
def RX.anew (s : RX) (now : Int) : RX := { s with wait := s.rto, cnt := 0, alarm := now + s.rto }
set_option maxHeartbeats 2000000 in
theorem xanew_any {w : World} {b : Nat} {s : RX} (h : RxAt w b s) (now : Int) (r0 : 1 ≤ s.rto) (r1 : s.rto ≤ 1073741824) (n0 : 0 ≤ now) (n1 : now ≤ 4398046511104) :
    Calls Tryz.prog 82 #[.pointer (some ⟨b, 0, none⟩), .int .u64 now] w fun e w' => e = .returned (.tuple #[]) ∧ RxAt w' b (s.anew now) ∧ Keeps [b] w w' := by
  have c4 := h.c4
  have z6 := h.fz 6
  have z7 := h.fz 7
  have z8 := h.fz 8
  have c6 := h.c6
  have c7 := h.c7
  have c8 := h.c8
  have hw : IntKind.u64.wrap (now + s.rto) = now + s.rto := by rw [IntKind.wrap_u64]; omega
  have H := Lib.hid h
  clear h
  go_enter Tryz.func82, Tryz.ntmps82
  go_region
  go_end0
  refine ⟨rfl, ?_, ?_⟩
  · exact (((H.out.s6 _).s7 _).s8 _).keep0 (Keeps.drew _ _)
  · repeat (first | exact Keeps.refl _ _ | apply Keeps.alloc' | apply Keeps.drew' | (refine Keeps.setCell' ?_ (by simp) _))
def RX.wrote (s : RX) (A : Option Addr) (l : List UInt8) (c : Nat) (now : Int) : RX := if s.data.length = 0 ∧ 0 < l.length then RX.anew { s with dataA := A, data := s.data ++ l, dataC := c } now else { s with dataA := A, data := s.data ++ l, dataC := c }
theorem grown_keeps0 {w w' : World} {row : Option Nat} {B : Nat} (g : w.grownBy w' row) (h : ∀ j, row = some j → B ≤ j) (hB : ∀ j, j < B → j < w.heap.size) : ∀ j, j < B → w'.heap[j]? = w.heap[j]? := fun j hj => g.block j (hB j hj) (fun e => by have := h j e.symm; omega)
set_option maxRecDepth 100000 in
set_option maxHeartbeats 2000000 in
theorem xwrite_ok {w : World} {b : Nat} {s : RX} (h : RxAt w b s) (ok : s.Ok) (A : Option Addr) (n c : Nat) (l : List UInt8) (hl : BytesV w (.slice A n c) l) (hlen : s.data.length + n ≤ 16384) (now : Int) (n0 : 0 ≤ now) (n1 : now ≤ 4398046511104) :
    Calls Tryz.prog 49 #[.pointer (some ⟨b, 0, none⟩), .slice A n c, .int .u64 now] w fun e w' => e = .returned (.int .i64 0) ∧
      (∃ A' c', RxAt w' b (s.wrote A' l c' now) ∧ ∀ a, A' = some a → w.heap.size ≤ a.block) ∧ Keeps [b] w w' := by
  obtain ⟨rfl, _, _⟩ := hl.form
  have H := Lib.hid h
  have HL := Lib.hid hl
  have CN := Lib.hid (xnone_no h ok.rto.1)
  have CC := Lib.hid (bclone_own w s.dataA s.data.length s.dataC s.data h.data (by omega))
  have RT := Lib.hid ok.rto
  have c0 := h.c0
  have i1 : IntKind.i64.wrap ((s.data.length : Int) + l.length) = (s.data.length : Int) + l.length := by rw [IntKind.wrap_i64]; omega
  have i2 : decide (16384 < (s.data.length : Int) + l.length) = false := decide_eq_false (by omega)
  have LE := Lib.hid hlen
  obtain ⟨fb, hfb⟩ : ∃ fb, ((s.data.length : Int) == 0) = fb := ⟨_, rfl⟩
  have HFB := Lib.hid hfb
  clear h hl ok
  go_enter Tryz.func49, Tryz.ntmps49
  go_wp2_with fail
  refine CN.out.mono ?_
  rintro e w1 ⟨rfl, rfl⟩
  go_wp2_with fail
  refine CC.out.mono ?_
  rintro e w2 ⟨v, rfl, o2, k2⟩
  obtain ⟨A2, c2, rfl⟩ := own_slice o2
  have H2 := Lib.hid (H.out.keep0 k2)
  have HL2 := Lib.hid (HL.out.keep0 k2)
  have O2 := Lib.hid o2
  have K2 := Lib.hid k2
  clear o2 k2 c0 i1 i2 hlen
  go_wp2_with (at_builtin; refine wpList_append_bytes rfl _ _ w.heap.size 37 5 rfl Tryz.underlying37 Tryz.infoU8 (.slice A2 s.data.length c2) s.data.length s.data rfl O2.out _ l rfl HL2.out (by have := LE.out; omega) K2.out.size ?_)
  intro v3 w3 hown hg hat _
  obtain ⟨A3, c3, rfl⟩ := own_slice hown
  have FA := Lib.hid (show ∀ a, A3 = some a → w.heap.size ≤ a.block from fun a ha => (hown.lt a.block (by rw [ha]; rfl)).1)
  have hfz := H2.out.fz 0
  have k3 : Keeps [] w w3 := K2.out.own hg (fun j hj => (O2.out.lt j hj).1)
  have h3 := H.out.keep0 k3
  have hb3 : BytesV w3 (.slice A3 (s.data ++ l).length c3) (s.data ++ l) := by
    rw [List.length_append]
    refine BytesV.of_own (base := w.heap.size) (e := 5) (n := s.data.length + l.length) ?_
    rw [List.map_append]
    first | exact hown | simpa using hown
  have H3 := Lib.hid h3
  have K3 := Lib.hid k3
  have HB3 := Lib.hid hb3
  have z0 := h3.fz 0
  have c0 := h3.c0
  clear hown hg hat h3 k3 hb3 O2 K2 HL2 H2 hfz
  go_upto_region 7 with fail
  refine wp_gn (fun W4 hW4 => ?_)
  have h4 : RxAt W4 b { s with dataA := A3, data := s.data ++ l, dataC := c3 } := by
    rw [hW4]
    have h := H3.out.s0 A3 (s.data ++ l) c3 HB3.out
    rw [List.length_append] at h
    first | exact h | (simpa using h)
  have K4 := Lib.hid (show Keeps [b] w W4 by rw [hW4]; exact (K3.out.mono (by simp)).trans (Keeps.setCell w3 ⟨b, 0, none⟩ _))
  have H4 := Lib.hid h4
  have c0 := h4.c0
  simp only [List.length_append] at c0
  clear hW4 h4 z0
  cases fb
  · have hne : ¬ (s.data.length = 0 ∧ 0 < l.length) := fun ⟨h1, _⟩ => by have := HFB.out; simp [h1] at this
    go_wp2_with fail
    go_ret
    exact ⟨rfl, ⟨A3, c3, by unfold RX.wrote; rw [if_neg hne]; exact H4.out, FA.out⟩, K4.out⟩
  · have h0 : s.data.length = 0 := by have := HFB.out; simpa using this
    by_cases hp : 0 < l.length
    · have d1 : decide (0 < ((s.data.length + l.length : Nat) : Int)) = true := decide_eq_true (by omega)
      have d2 : decide (0 < (s.data.length : Int) + l.length) = true := decide_eq_true (by omega)
      have d3 : decide (0 < s.data.length + l.length) = true := decide_eq_true (by omega)
      have hy : s.data.length = 0 ∧ 0 < l.length := ⟨h0, hp⟩
      clear h0 hp
      go_wp2_with fail
      refine (xanew_any H4.out now RT.out.1 RT.out.2 n0 n1).mono ?_
      rintro e w5 ⟨rfl, h5, k5⟩
      have H5 := Lib.hid h5
      have K5 := Lib.hid (K4.out.trans k5)
      clear h5 k5
      go_wp2_with fail
      go_ret
      exact ⟨rfl, ⟨A3, c3, by unfold RX.wrote; rw [if_pos hy]; exact H5.out, FA.out⟩, K5.out⟩
    · have d1 : decide (0 < ((s.data.length + l.length : Nat) : Int)) = false := decide_eq_false (by omega)
      have d2 : decide (0 < (s.data.length : Int) + l.length) = false := decide_eq_false (by omega)
      have d3 : decide (0 < s.data.length + l.length) = false := decide_eq_false (by omega)
      have hne : ¬ (s.data.length = 0 ∧ 0 < l.length) := fun h => hp h.2
      clear h0 hp
      go_wp2_with fail
      go_ret
      exact ⟨rfl, ⟨A3, c3, by unfold RX.wrote; rw [if_neg hne]; exact H4.out, FA.out⟩, K4.out⟩
end Go.Proofs.YtakgohocimlagaaGreat

namespace Go.Proofs.YtakgohocimlagaaGreat
open Go.RowKit
set_option linter.unusedVariables false
set_option linter.unusedSimpArgs false

def RX.acked (s : RX) (ack win : Int) (n : Nat) (A : Option Addr) (c : Nat) (now : Int) : RX :=
  if n = 0 then { s with win := win } else RX.anew { s with win := win, una := ack, sent := s.sent - n, dataA := A, data := s.data.drop n, dataC := c } now
/-- what it holds lies where P tells -/
def RX.inP (s : RX) (P : Nat → Prop) : Prop := 0 < s.data.length → ∀ a, s.dataA = some a → P a.block
theorem RxAt.inP {w : World} {b : Nat} {s : RX} (h : RxAt w b s) : s.inP (fun j => j < w.heap.size) := by
  intro hl a ha
  obtain ⟨g, o, e, hc⟩ := h.data.get hl
  rw [ha] at e
  cases e
  exact lt_of_cell (hc 0 _ (List.getElem?_eq_getElem hl))
set_option maxRecDepth 100000 in
set_option maxHeartbeats 2000000 in
theorem xacked_ok {w : World} {b : Nat} {s : RX} (h : RxAt w b s) (ok : s.Ok) (ack : Int) (ua : U32 ack) (n : Nat) (hn : aheadI s.una ack = n) (hs : (n : Int) ≤ s.sent) (win : Int) (w0 : 0 ≤ win) (w1 : win ≤ 1073741824) (now : Int) (n0 : 0 ≤ now) (n1 : now ≤ 4398046511104) :
    Calls Tryz.prog 75 #[.pointer (some ⟨b, 0, none⟩), .int .u32 ack, .int .u32 win, .int .u64 now] w fun e w' => e = .returned (.tuple #[.int .i64 n, .int .i64 0]) ∧ (∃ A' c', RxAt w' b (s.acked ack win n A' c' now) ∧ ∀ P, s.inP P → (s.acked ack win n A' c' now).inP P) ∧ Keeps [b] w w' := by
  have H := Lib.hid h
  have CN := Lib.hid (xnone_no h ok.rto.1)
  have CA := Lib.hid (fun W => ahead_any W s.una ack ok.una ua)
  rw [hn] at CA
  have RT := Lib.hid ok.rto
  have SE := Lib.hid ok.sent
  have LE := Lib.hid ok.len
  have c1 := h.c1
  have c2 := h.c2
  have z3 := h.fz 3
  have c3 := h.c3
  have i0 : IntKind.i64.wrap (n : Int) = n := by have := ok.sent; have := ok.len; rw [IntKind.wrap_i64]; omega
  have d1 : decide ((n : Int) < 0) = false := decide_eq_false (by omega)
  have d2 : decide (s.sent < (n : Int)) = false := decide_eq_false (by omega)
  have d3 : decide (1073741824 < win) = false := decide_eq_false (by omega)
  have HNS := Lib.hid hs
  clear h ok hn hs
  go_enter Tryz.func75, Tryz.ntmps75
  go_wp2_with fail
  refine CN.out.mono ?_
  rintro e w1 ⟨rfl, rfl⟩
  go_wp2_with fail
  refine (CA.out _).mono ?_
  rintro e w1 ⟨rfl, rfl⟩
  go_upto_region 7 with fail
  refine wp_gn (fun W1 hW1 => ?_)
  have h1 : RxAt W1 b { s with win := win } := by rw [hW1]; exact H.out.s3 win
  have K1 := Lib.hid (show Keeps [b] w W1 by rw [hW1]; exact Keeps.setCell w ⟨b, 3, none⟩ _)
  have H1 := Lib.hid h1
  have c1' := h1.c1
  have c2' := h1.c2
  have z1 := h1.fz 1
  have z2 := h1.fz 2
  clear hW1 h1 c1 c2 z3 c3 i0 d1 d2 d3
  by_cases hz : n = 0
  · have e1 : decide ((0 : Int) < (n : Int)) = false := decide_eq_false (by omega)
    have e2 : decide (0 < n) = false := decide_eq_false (by omega)
    have HZ := Lib.hid hz
    clear hz
    go_wp2_with fail
    go_ret2
    exact ⟨rfl, ⟨none, 0, by unfold RX.acked; rw [if_pos HZ.out]; exact H1.out, by unfold RX.acked; rw [if_pos HZ.out]; exact fun B h => h⟩, K1.out⟩
  · have e1 : decide ((0 : Int) < (n : Int)) = true := decide_eq_true (by omega)
    have e2 : decide (0 < n) = true := decide_eq_true (by omega)
    have i1 : IntKind.i64.wrap (s.sent - (n : Int)) = s.sent - n := by have := SE.out; have := LE.out; have := HNS.out; rw [IntKind.wrap_i64]; omega
    have HZ := Lib.hid hz
    clear hz
    go_upto_region 9 with fail
    refine wp_gn (fun W2 hW2 => ?_)
    have h2 : RxAt W2 b { s with win := win, una := ack, sent := s.sent - n } := by rw [hW2]; exact (H1.out.s1 ack).s2 _
    have K2 := Lib.hid (show Keeps [b] w W2 by rw [hW2]; exact K1.out.trans ((Keeps.setCell W1 ⟨b, 1, none⟩ _).trans (Keeps.setCell _ ⟨b, 2, none⟩ _)))
    have H2 := Lib.hid h2
    have c0 := h2.c0
    have z0 := h2.fz 0
    simp only at c0
    clear hW2 h2 c1' c2' z1 z2 i1 e1
    obtain ⟨X, hX⟩ : ∃ X, (if s.data.length = n then s.dataA else Option.map (fun x : Addr => x.add n) s.dataA) = X := ⟨_, rfl⟩
    obtain ⟨_, q1, q2⟩ := H2.out.data.form
    simp only at q1 q2
    have j1 : (n : Int) ≤ s.data.length := by have := SE.out; have := HNS.out; omega
    have j2 : (s.data.length : Int) ≤ s.dataC := by omega
    have j3 : (n : Int) ≤ s.dataC := by omega
    have JB := Lib.hid (And.intro hX (And.intro q1 q2))
    clear q1 q2
    go_region
    go_upto_region 10 with fail
    refine wp_gn (fun W3 hW3 => ?_)
    have hb3 : BytesV W2 (.slice X (s.data.drop n).length (s.data.length - n)) (s.data.drop n) := by
      have hd := H2.out.data
      simp only at hd
      rcases Nat.lt_or_ge n s.data.length with hlt | hge
      · obtain ⟨g, o, ha, _⟩ := hd.get (by omega)
        have hx : X = some ⟨g, o + n, none⟩ := by
          rw [← JB.out.1, if_neg (by omega), ha]
          simp only [Option.map_some]
          congr 1
          unfold Addr.add
          split <;> simp_all
        rw [ha] at hd
        have := hd.sub (lo := n) (hi := s.data.length) (by omega) (Nat.le_refl _) X (s.data.length - n) (fun _ => hx) (Nat.le_refl _) (by have := JB.out.2.1; have := JB.out.2.2; omega)
        have e : (s.data.drop n).take (s.data.length - n) = s.data.drop n := List.take_of_length_le (by simp)
        rw [e] at this
        simpa using this
      · have e : s.data.drop n = [] := List.drop_eq_nil_of_le hge
        rw [e]
        exact BytesV.empty _ (by have := JB.out.2.1; have := JB.out.2.2; omega)
    have h3 : RxAt W3 b { s with win := win, una := ack, sent := s.sent - n, dataA := X, data := s.data.drop n, dataC := s.data.length - n } := by
      rw [hW3]
      have h := (H2.out.s0 X (s.data.drop n) (s.data.length - n) hb3).keep0 (Keeps.drew [] _)
      first | exact h | (simpa using h)
    have K3 := Lib.hid (show Keeps [b] w W3 by rw [hW3]; exact K2.out.trans ((Keeps.setCell W2 ⟨b, 0, none⟩ _).trans (Keeps.drew [b] _)))
    have H3 := Lib.hid h3
    clear hW3 h3 hb3 c0 z0 j1 j2 j3
    go_wp2_with fail
    refine (xanew_any H3.out now RT.out.1 RT.out.2 n0 n1).mono ?_
    rintro e w4 ⟨rfl, h4, k4⟩
    have H4 := Lib.hid h4
    have K4 := Lib.hid (K3.out.trans k4)
    clear h4 k4
    go_wp2_with fail
    go_ret2
    exact ⟨rfl, ⟨X, s.data.length - n, by unfold RX.acked; rw [if_neg HZ.out]; exact H4.out, by
      unfold RX.acked RX.anew
      rw [if_neg HZ.out]
      intro B h hl a ha
      simp only [List.length_drop] at hl ha
      rw [← JB.out.1, if_neg (by omega)] at ha
      obtain ⟨a0, h0, rfl⟩ := Option.map_eq_some_iff.1 ha
      have h1 := h (by omega) a0 h0
      have h2 : (a0.add n).block = a0.block := by unfold Addr.add; split <;> rfl
      rw [h2]
      exact h1⟩, K4.out⟩
end Go.Proofs.YtakgohocimlagaaGreat

namespace Go.Proofs.YtakgohocimlagaaGreat
open Go.RowKit
set_option linter.unusedVariables false
set_option linter.unusedSimpArgs false

theorem BytesV.keepF {w w' : World} {A : Option Addr} {n c : Nat} {l : List UInt8} {T : List Nat} (h : BytesV w (.slice A n c) l) (k : Keeps T w w') (hT : ∀ a, A = some a → a.block ∉ T) : BytesV w' (.slice A n c) l := by
  obtain ⟨h1, h2, h3⟩ := h.form
  subst h1
  refine ⟨A, c, rfl, h2, h3, fun hp => ?_⟩
  obtain ⟨g, o, rfl, hc⟩ := h.get hp
  exact ⟨g, o, rfl, fun i x hx => cell_keeps k (hc i x hx) (hT ⟨g, o, none⟩ rfl)⟩
theorem own_lower' {w : World} {B B' e sz n : Nat} {v : Value} {xs : List Value} (h : w.ownsRow B e sz v n xs) (hB : B' ≤ B) : w.ownsRow B' e sz v n xs := by
  refine ⟨h.1, ?_⟩
  rcases h.2 with h0 | ⟨g, cap, cur, e, hb, hg, hr⟩
  · exact .inl h0
  · exact .inr ⟨g, cap, cur, e, Nat.le_trans hB hb, hg, hr⟩
set_option maxRecDepth 100000 in
set_option maxHeartbeats 2000000 in
theorem xpiece_any {w : World} {b : Nat} {s : RX} (h : RxAt w b s) (ok : s.Ok) (f t : Nat) (h1 : f ≤ t) (h2 : t ≤ s.data.length) :
    Calls Tryz.prog 80 #[.pointer (some ⟨b, 0, none⟩), .int .i64 f, .int .i64 t] w fun e w' => ∃ A c, e = .returned (.agg #[.int .u32 (addI s.una f), .slice A (t - f) c]) ∧ BytesV w' (.slice A (t - f) c) ((s.data.drop f).take (t - f)) ∧ (∀ a, A = some a → w.heap.size ≤ a.block) ∧ Keeps [] w w' := by
  obtain ⟨_, q1, q2⟩ := h.data.form
  obtain ⟨X, hX⟩ : ∃ X, (if s.dataC = f then s.dataA else Option.map (fun x : Addr => x.add f) s.dataA) = X := ⟨_, rfl⟩
  have hlen : ((s.data.drop f).take (t - f)).length = t - f := by simp; omega
  have HD := Lib.hid (fun W (k : Keeps [] w W) => (h.data.keep0 k).fromXe (k := f) (e := t) h1 h2 hX)
  have HC := Lib.hid (fun W (hW : BytesV W (.slice X (t - f) (s.dataC - f)) ((s.data.drop f).take (t - f))) => bclone_own W X (t - f) (s.dataC - f) _ hW (by have := ok.len; omega))
  rw [hlen] at HC
  have HA := Lib.hid (fun W => add_any W s.una f ok.una)
  have c1 := h.c1
  have c0 := h.c0
  have hlt := h.lt
  have j1 : (f : Int) ≤ t := by omega
  have j2 : (t : Int) ≤ s.dataC := by omega
  have j3 : (f : Int) ≤ s.dataC := by omega
  have j0 : (0 : Int) ≤ f := by omega
  clear h ok q1 q2
  go_enter Tryz.func80, Tryz.ntmps80
  go_upto_region 1 with fail
  refine wp_gn (fun W1 hW1 => ?_)
  have k1 : Keeps [] w W1 := by rw [hW1]; exact Keeps.alloc _ _ _
  have hz : W1.heap[w.heap.size]? = some (.cells #[.int .u32 0, .slice none 0 0] 82 (0, 0)) := by rw [hW1]; exact (MapKept.heap_alloc w _).1
  have hz1 : w.heap.size < W1.heap.size := lt_of_block hz
  have HZ := Lib.hid hz
  have K1 := Lib.hid k1
  have c1' := cell_keeps k1 c1 (by simp)
  have c0' := cell_keeps k1 c0 (by simp)
  clear hW1 k1 c1 c0 hz
  have z0 := free_of_block HZ.out 0
  have z1 := free_of_block HZ.out 1
  have y0 := cell_of_block HZ.out 0
  have y1 := cell_of_block HZ.out 1
  simp at y0 y1
  go_region_held3 (fun w' => w'.cell? ⟨b, 1, none⟩ = some (.int .u32 s.una) ∧ w'.cell? ⟨b, 0, none⟩ = some (.slice s.dataA s.data.length s.dataC)) ((refine (fun kx => ⟨cell_keeps kx c1' (by simp; omega), cell_keeps kx c0' (by simp; omega)⟩ : Keeps [w.heap.size] W1 _ → _) ?_; (repeat (first | with_reducible assumption | with_reducible exact Keeps.refl _ _ | with_reducible apply Keeps.alloc' | with_reducible apply Keeps.drew' | with_reducible apply Keeps.drewN' | (with_reducible apply Keeps.setCell'; rotate_left; · simp))))) (first | (go_at_call 60; (with_reducible refine (HA.out _).mono ?_); rintro e w2 ⟨rfl, rfl⟩) | (go_at_call 33; (with_reducible refine (HC.out _ (HD.out _ (K1.out.trans (by (repeat (first | with_reducible assumption | with_reducible exact Keeps.refl _ _ | with_reducible apply Keeps.alloc' | with_reducible apply Keeps.drew' | with_reducible apply Keeps.drewN' | (with_reducible apply Keeps.setCell'; rotate_left; · simp))))))).mono ?_); rintro e w3 ⟨v, rfl, o3, k3⟩; obtain ⟨A3, c3, rfl⟩ := own_slice o3; have O3 := Lib.hid (own_lower' (B' := W1.heap.size) o3 (Keeps.size (S := []) (by (repeat (first | with_reducible assumption | with_reducible exact Keeps.refl _ _ | with_reducible apply Keeps.alloc' | with_reducible apply Keeps.drew' | with_reducible apply Keeps.drewN' | (with_reducible apply Keeps.setCell'; rotate_left; · simp)))))); have kw3 : Keeps [] W1 w3 := Keeps.trans (by (repeat (first | with_reducible assumption | with_reducible exact Keeps.refl _ _ | with_reducible apply Keeps.alloc' | with_reducible apply Keeps.drew' | with_reducible apply Keeps.drewN' | (with_reducible apply Keeps.setCell'; rotate_left; · simp)))) k3; have kx3 : Keeps [w.heap.size] W1 w3 := kw3.mono (by simp); have y03 := cell_keeps kw3 y0 (by simp); have y13 := cell_keeps kw3 y1 (by simp); have z03 := free_of_block ((kw3.block _ hz1 (by simp)).trans HZ.out) 0; have z13 := free_of_block ((kw3.block _ hz1 (by simp)).trans HZ.out) 1; clear k3 o3) | fail)
  have hbo := BytesV.of_own O3.out
  have R := Lib.hid (show BytesV ((w3.setCell ⟨w.heap.size, 0, none⟩ (.int .u32 (addI s.una f))).setCell ⟨w.heap.size, 1, none⟩ (.slice A3 (t - f) c3)) (.slice A3 (t - f) c3) ((s.data.drop f).take (t - f)) from hbo.keepF (T := [w.heap.size]) ((Keeps.setCell w3 ⟨w.heap.size, 0, none⟩ _).trans (Keeps.setCell _ ⟨w.heap.size, 1, none⟩ _)) (fun a ha hm => by have h3 := (O3.out.lt a.block (by rw [ha]; rfl)).1; have h4 : a.block = w.heap.size := (by simpa using hm); omega))
  have K := Lib.hid (show Keeps [] w ((w3.setCell ⟨w.heap.size, 0, none⟩ (.int .u32 (addI s.una f))).setCell ⟨w.heap.size, 1, none⟩ (.slice A3 (t - f) c3)) from ((K1.out.trans kw3).setCell' (p := ⟨w.heap.size, 0, none⟩) (Or.inl (Nat.le_refl _)) _).setCell' (p := ⟨w.heap.size, 1, none⟩) (Or.inl (Nat.le_refl _)) _)
  go_wp2_with fail
  refine bodyPost_ret (v := .agg #[.int .u32 (addI s.una f), .slice A3 (t - f) c3]) (by simp [results, Tryz.results80, go_sem, y03, y13]) rfl ⟨A3, c3, rfl, R.out, fun a ha => Nat.le_trans (Nat.le_of_lt hz1) (O3.out.lt a.block (by rw [ha]; rfl)).1, K.out⟩
end Go.Proofs.YtakgohocimlagaaGreat

namespace Go.Proofs.YtakgohocimlagaaGreat
open Go.RowKit
set_option linter.unusedVariables false
set_option linter.unusedSimpArgs false

set_option maxHeartbeats 400000 in
theorem xmay_ok (w : World) (mss : Int) (h1 : 1 ≤ mss) (h2 : mss ≤ 1500) : Calls Tryz.prog 79 #[.int .i64 mss] w fun e w' => e = .returned (.bool true) ∧ w = w' := by
  have d1 : decide (1 ≤ mss) = true := decide_eq_true h1
  have d2 : decide (mss ≤ 1500) = true := decide_eq_true h2
  go_enter Tryz.func79, Tryz.ntmps79
  go_wp2
  go_ret
  exact ⟨rfl, rfl⟩
theorem Keeps.fresh' {w w' : World} {b : Nat} (k : Keeps [b, w.heap.size] w w') (h : w.heap.size ≠ b) : Keeps [b] w w' :=
  ⟨k.os, k.tape, k.output, k.size, fun j hj hn => k.block j hj (by simp at hn; simp; omega)⟩
def RX.tickN (s : RX) (mss : Int) : Int := max (min mss (min s.data.length s.win)) 1
def RX.ticked (s : RX) (mss now : Int) : RX := { s with cnt := s.cnt + 1, wait := s.wait * 2, alarm := now + s.wait * 2, sent := max s.sent (s.tickN mss) }
set_option maxRecDepth 100000 in
set_option maxHeartbeats 4000000 in
theorem xtick_ok {w : World} {b : Nat} {s : RX} (h : RxAt w b s) (ok : s.Ok) (mss now : Int) (m0 : 1 ≤ mss) (m1 : mss ≤ 1500) (n0 : 0 ≤ now) (n1 : now ≤ 4398046511104) (ha : s.alarm ≤ now) (hc : s.cnt < s.tries) (hl : 0 < s.data.length) (w0 : 0 ≤ s.wait) (w1 : s.wait ≤ 2199023255552) :
    Calls Tryz.prog 45 #[.pointer (some ⟨b, 0, none⟩), .int .i64 mss, .int .u64 now] w fun e w' => ∃ A c, e = .returned (.tuple #[.agg #[.int .u32 s.una, .slice A (s.tickN mss).toNat c], .bool true, .int .i64 0]) ∧ BytesV w' (.slice A (s.tickN mss).toNat c) (s.data.take (s.tickN mss).toNat) ∧ (∀ a, A = some a → w.heap.size ≤ a.block) ∧ RxAt w' b (s.ticked mss now) ∧ Keeps [b] w w' := by
  obtain ⟨t, ht⟩ : ∃ t : Nat, s.tickN mss = t := ⟨(s.tickN mss).toNat, by unfold RX.tickN; omega⟩
  obtain ⟨mn, iN⟩ : ∃ mn : Int, (if s.win < if (s.data.length : Int) < mss then (s.data.length : Int) else mss then s.win else if (s.data.length : Int) < mss then (s.data.length : Int) else mss) = mn := ⟨_, rfl⟩
  have iM : max mn 1 = (t : Int) := by
    rw [← ht, ← iN]
    unfold RX.tickN
    split <;> split <;> omega
  have htl : t ≤ s.data.length := by unfold RX.tickN at ht; omega
  have ok4 : ({ s with cnt := s.cnt + 1, wait := s.wait * 2, alarm := now + s.wait * 2, sent := max s.sent t } : RX).Ok := ⟨ok.una, ok.len, by have := ok.sent; simp only; omega, ok.win, ok.rto, ok.tries, by have := ok.cnt; have := ok.tries; simp only; omega⟩
  have e4 : ({ s with cnt := s.cnt + 1, wait := s.wait * 2, alarm := now + s.wait * 2, sent := max s.sent t } : RX) = s.ticked mss now := by unfold RX.ticked; rw [ht]
  have OK4 := Lib.hid ok4
  have E4 := Lib.hid e4
  have HT := Lib.hid ht
  have htn : (s.tickN mss).toNat = t := by rw [ht]; rfl
  rw [htn]
  clear ok4 e4 ht htn
  have H := Lib.hid h
  have OK := Lib.hid ok
  have CN := Lib.hid (fun W (hW : RxAt W b s) => xnone_no hW ok.rto.1)
  have CM := Lib.hid (fun W => xmay_ok W mss m0 m1)
  have e1 : ((s.data.length : Int) == 0) = false := beq_eq_false_iff_ne.mpr (by omega)
  have e2 : decide (now < s.alarm) = false := decide_eq_false (by omega)
  have e3 : (s.cnt == s.tries) = false := beq_eq_false_iff_ne.mpr (by omega)
  have i1 : IntKind.i64.wrap (s.cnt + 1) = s.cnt + 1 := by have := ok.cnt; rw [IntKind.wrap_i64]; omega
  have i2 : IntKind.u64.wrap (s.wait * 2) = s.wait * 2 := by rw [IntKind.wrap_u64]; omega
  have i3 : IntKind.u64.wrap (now + s.wait * 2) = now + s.wait * 2 := by rw [IntKind.wrap_u64]; omega
  have i4 : IntKind.i64.wrap s.win = s.win := by have := ok.win; rw [IntKind.wrap_i64]; omega
  have hlt := h.lt
  have c0 := h.c0
  have c8 := h.c8
  have q0 := fun o => keeps_cell0 (o := o) c0
  clear h ok
  go_enter Tryz.func45, Tryz.ntmps45
  go_wp2_with fail
  refine (CN.out _ (H.out.keep0 (Keeps.alloc _ _ _))).mono ?_
  rintro e w1 ⟨rfl, rfl⟩
  go_wp2_with fail
  refine (CM.out _).mono ?_
  rintro e w1 ⟨rfl, rfl⟩
  go_upto_region 5 with fail
  refine wp_gn (fun W1 hW1 => ?_)
  have k1 : Keeps [] w W1 := by rw [hW1]; exact Keeps.alloc _ _ _
  have hz : W1.heap[w.heap.size]? = some (.cells #[.int .u32 0, .slice none 0 0] 82 (0, 0)) := by rw [hW1]; exact (MapKept.heap_alloc w _).1
  have H1 := Lib.hid (H.out.keep0 k1)
  have HZ1 := Lib.hid hz
  have K1 := Lib.hid k1
  clear hW1 k1 hz c0 c8 q0
  have c0 := H1.out.c0
  have c8 := H1.out.c8
  have c7 := H1.out.c7
  have c5 := H1.out.c5
  go_upto_region 7 with fail
  go_quiet (fail)
  go_upto_region 9 with fail
  refine wp_gn (fun W2 hW2 => ?_)
  have k2 : Keeps [] W1 W2 := by rw [hW2]; exact Keeps.drewN [] W1 _
  have H2 := Lib.hid (H1.out.keep0 k2)
  have HZ2 := Lib.hid ((k2.block _ (lt_of_block HZ1.out) (by simp)).trans HZ1.out)
  have K2 := Lib.hid (K1.out.trans k2)
  clear hW2 k2 c0 c8 c7 c5 e1 e2 e3 HZ1 H1
  have c7 := H2.out.c7
  have c6 := H2.out.c6
  have c8 := H2.out.c8
  have z7 := H2.out.fz 7
  have z6 := H2.out.fz 6
  have z8 := H2.out.fz 8
  go_upto_region 12 with fail
  refine wp_gn (fun W3 hW3 => ?_)
  have h3 : RxAt W3 b { s with cnt := s.cnt + 1, wait := s.wait * 2, alarm := now + s.wait * 2 } := by rw [hW3]; exact ((H2.out.s7 _).s6 _).s8 _
  have kS : Keeps [b] W2 W3 := by rw [hW3]; exact ((Keeps.setCell W2 ⟨b, 7, none⟩ _).trans (Keeps.setCell _ ⟨b, 6, none⟩ _)).trans (Keeps.setCell _ ⟨b, 8, none⟩ _)
  have H3 := Lib.hid h3
  have HZ3 := Lib.hid ((kS.block _ (lt_of_block HZ2.out) (by simp; omega)).trans HZ2.out)
  have K3 := Lib.hid ((K2.out.mono (T := [b]) (by simp)).trans kS)
  clear hW3 h3 kS c7 c6 c8 z7 z6 z8 i1 i2 i3 HZ2 H2
  have c0 := H3.out.c0
  have c3 := H3.out.c3
  have c2 := H3.out.c2
  have z2 := H3.out.fz 2
  simp only at c0 c3 c2
  go_quiet (fail)
  go_upto_region 14 with fail
  refine wp_gn (fun W4 hW4 => ?_)
  have h4 : RxAt W4 b { s with cnt := s.cnt + 1, wait := s.wait * 2, alarm := now + s.wait * 2, sent := max s.sent t } := by rw [hW4]; exact (H3.out.keep0 (Keeps.drewN [] W3 _)).s2 _
  have kS : Keeps [b] W3 W4 := by rw [hW4]; exact (Keeps.drewN [b] W3 _).trans (Keeps.setCell _ ⟨b, 2, none⟩ _)
  have H4 := Lib.hid h4
  have HZ4 := Lib.hid ((kS.block _ (lt_of_block HZ3.out) (by simp; omega)).trans HZ3.out)
  have K4 := Lib.hid (K3.out.trans kS)
  have hp := xpiece_any h4 OK4.out 0 t (Nat.zero_le _) htl
  have ez : addI s.una ((0 : Nat) : Int) = s.una := by have := OK4.out.una; obtain ⟨u0, u1⟩ := this; simp only at u0 u1; unfold addI; omega
  simp only [Nat.sub_zero, List.drop_zero] at hp
  rw [ez] at hp
  clear hW4 h4 kS c0 c3 c2 z2 iM iN ez HZ3 H3 i4
  go_wp2_with fail
  refine hp.mono ?_
  clear hp
  rintro e w5 ⟨A5, c5, rfl, hb5, hf5, k5⟩
  have hz5 := (k5.block _ (lt_of_block HZ4.out) (by simp)).trans HZ4.out
  have hzl := lt_of_block HZ4.out
  have y0 := cell_of_block hz5 0
  have y1 := cell_of_block hz5 1
  simp at y0 y1
  have z0 := free_of_block hz5 0
  have z1 := free_of_block hz5 1
  have hno : w.heap.size ≠ b := by omega
  have kF : Keeps [w.heap.size] w5 ((w5.setCell ⟨w.heap.size, 0, none⟩ (.int .u32 s.una)).setCell ⟨w.heap.size, 1, none⟩ (.slice A5 t c5)) := (Keeps.setCell w5 ⟨w.heap.size, 0, none⟩ _).trans (Keeps.setCell _ ⟨w.heap.size, 1, none⟩ _)
  have hno5 : NoU8 w5 w.heap.size := by
    intro i x hx
    rw [cell_of_block hz5 i] at hx
    match i, hx with
    | 0, hx => simp at hx
    | 1, hx => simp at hx
    | i + 2, hx => simp at hx
  have R := Lib.hid (show BytesV ((w5.setCell ⟨w.heap.size, 0, none⟩ (.int .u32 s.una)).setCell ⟨w.heap.size, 1, none⟩ (.slice A5 t c5)) (.slice A5 t c5) (s.data.take t) ∧ (∀ a, A5 = some a → w.heap.size ≤ a.block) ∧ RxAt ((w5.setCell ⟨w.heap.size, 0, none⟩ (.int .u32 s.una)).setCell ⟨w.heap.size, 1, none⟩ (.slice A5 t c5)) b (s.ticked mss now) ∧ Keeps [b] w ((w5.setCell ⟨w.heap.size, 0, none⟩ (.int .u32 s.una)).setCell ⟨w.heap.size, 1, none⟩ (.slice A5 t c5)) from
    ⟨hb5.keep kF hno5, fun a ha => Nat.le_trans K4.out.size (hf5 a ha), by rw [← E4.out]; exact (H4.out.keep0 k5).other kF hno.symm hno5, ((K4.out.trans (k5.mono (by simp))).mono (T := [b, w.heap.size]) (by simp) |>.trans (kF.mono (by simp))).fresh' hno⟩)
  clear hb5 hf5 k5 kF hno5 hz5
  go_wp2_with fail
  refine bodyPost_ret (v := .tuple #[.agg #[.int .u32 s.una, .slice A5 t c5], .bool true, .int .i64 0]) (by simp [results, Tryz.results45, go_sem, y0, y1]) rfl ⟨A5, c5, rfl, R.out⟩
end Go.Proofs.YtakgohocimlagaaGreat

namespace Go.Proofs.YtakgohocimlagaaGreat
open Go.RowKit
set_option linter.unusedVariables false
set_option linter.unusedSimpArgs false

def RX.new (at' win rto tries : Int) : RX := ⟨none, [], 0, at', 0, win, rto, tries, rto, 0, 0⟩
set_option maxRecDepth 100000 in
set_option maxHeartbeats 1000000 in
theorem xnew_ok (w : World) (at' win rto tries : Int) (w0 : 0 ≤ win) (w1 : win ≤ 1073741824) (r0 : 1 ≤ rto) (r1 : rto ≤ 1073741824) (t0 : 1 ≤ tries) (t1 : tries ≤ 10) :
    Calls Tryz.prog 73 #[.int .u32 at', .int .u32 win, .int .u64 rto, .int .i64 tries] w fun e w' => e = .returned (.tuple #[.pointer (some ⟨w.heap.size, 0, none⟩), .int .i64 0]) ∧ RxAt w' w.heap.size (RX.new at' win rto tries) ∧ Keeps [] w w' := by
  have d1 : decide (rto < 1) = false := decide_eq_false (by omega)
  have d2 : decide (1073741824 < rto) = false := decide_eq_false (by omega)
  have d3 : decide (tries < 1) = false := decide_eq_false (by omega)
  have d4 : decide (10 < tries) = false := decide_eq_false (by omega)
  have d5 : decide (1073741824 < win) = false := decide_eq_false (by omega)
  go_enter Tryz.func73, Tryz.ntmps73
  go_wp2_with fail
  go_ret2
  exact ⟨rfl, ⟨(MapKept.heap_alloc w _).1, BytesV.nil _⟩, Keeps.alloc _ _ _⟩
set_option maxRecDepth 100000 in
set_option maxHeartbeats 2000000 in
theorem xtick_full {w : World} {b : Nat} {s : RX} (h : RxAt w b s) (ok : s.Ok) (mss now : Int) (m0 : 1 ≤ mss) (m1 : mss ≤ 1500) (ha : s.alarm ≤ now) (hc : s.cnt = s.tries) (hl : 0 < s.data.length) :
    Calls Tryz.prog 45 #[.pointer (some ⟨b, 0, none⟩), .int .i64 mss, .int .u64 now] w fun e w' => e = .returned (.tuple #[.agg #[.int .u32 0, .slice none 0 0], .bool false, .int .i64 7]) ∧ Keeps [] w w' := by
  have H := Lib.hid h
  have CN := Lib.hid (fun W (hW : RxAt W b s) => xnone_no hW ok.rto.1)
  have CM := Lib.hid (fun W => xmay_ok W mss m0 m1)
  have e1 : ((s.data.length : Int) == 0) = false := beq_eq_false_iff_ne.mpr (by omega)
  have e2 : decide (now < s.alarm) = false := decide_eq_false (by omega)
  have e3 : (s.cnt == s.tries) = true := by simpa using hc
  clear h ok hc
  go_enter Tryz.func45, Tryz.ntmps45
  go_wp2_with fail
  refine (CN.out _ (H.out.keep0 (Keeps.alloc _ _ _))).mono ?_
  rintro e w1 ⟨rfl, rfl⟩
  go_wp2_with fail
  refine (CM.out _).mono ?_
  rintro e w1 ⟨rfl, rfl⟩
  go_upto_region 5 with fail
  refine wp_gn (fun W1 hW1 => ?_)
  have k1 : Keeps [] w W1 := by rw [hW1]; exact Keeps.alloc _ _ _
  have hz : W1.heap[w.heap.size]? = some (.cells #[.int .u32 0, .slice none 0 0] 82 (0, 0)) := by rw [hW1]; exact (MapKept.heap_alloc w _).1
  have H1 := Lib.hid (H.out.keep0 k1)
  have K1 := Lib.hid k1
  have HZ := Lib.hid hz
  clear hW1 k1 hz
  have c0 := H1.out.c0
  have c8 := H1.out.c8
  have c7 := H1.out.c7
  have c5 := H1.out.c5
  go_upto_region 7 with fail
  go_quiet (fail)
  go_upto_region 8 with fail
  refine wp_gn (fun W2 hW2 => ?_)
  have k2 : Keeps [] W1 W2 := by rw [hW2]; exact Keeps.drewN [] W1 _
  have hz2 := (k2.block _ (lt_of_block HZ.out) (by simp)).trans HZ.out
  have K2 := Lib.hid (K1.out.trans k2)
  have y0 := cell_of_block hz2 0
  have y1 := cell_of_block hz2 1
  simp at y0 y1
  have z0 := free_of_block hz2 0
  have z1 := free_of_block hz2 1
  clear hW2 k2 hz2 c0 c8 c7 c5
  have K := Lib.hid (show Keeps [] w ((W2.setCell ⟨w.heap.size, 0, none⟩ (.int .u32 0)).setCell ⟨w.heap.size, 1, none⟩ (.slice none 0 0)) from (K2.out.setCell' (p := ⟨w.heap.size, 0, none⟩) (Or.inl (Nat.le_refl _)) _).setCell' (p := ⟨w.heap.size, 1, none⟩) (Or.inl (Nat.le_refl _)) _)
  go_wp2_with fail
  refine bodyPost_ret (v := .tuple #[.agg #[.int .u32 0, .slice none 0 0], .bool false, .int .i64 7]) (by simp [results, Tryz.results45, go_sem, y0, y1]) rfl ⟨rfl, K.out⟩
end Go.Proofs.YtakgohocimlagaaGreat

namespace Go.Proofs.YtakgohocimlagaaGreat
open Go.RowKit Go.Lib
set_option linter.unusedVariables false
set_option linter.unusedSimpArgs false

/-- a piece as it lies: its number, its bytes' row -/
structure PC where
  sq : Int
  A : Option Addr
  n : Nat
  c : Nat
def cellsP (x : PC) : List Value := [.int .u32 x.sq, .slice x.A x.n x.c]
def pcK : EK PC := ⟨cellsP, 2, fun _ => rfl, by decide, fun x u h => by
  simp only [cellsP, List.mem_cons, List.not_mem_nil, or_false] at h
  rcases h with rfl | rfl <;> rfl⟩
/-- a row of pieces of the call's own -/
abbrev OwnP (w : World) (base : Nat) (v : Value) (l : List PC) : Prop := pcK.Own w base 82 v l
theorem Tryz.infoPiece : (Tryz.prog.info? 82).map (fun i => (i.zero, i.size, i.bytes)) = some (some (.agg #[.int .u32 0, .slice none 0 0]), 2, 32) := by kernel_rfl
/-- the bytes of the pieces from a place on, up to another one, mss by mss -/
def cutsR (fuel : Nat) (una : Int) (l : List UInt8) (mss f e : Nat) : List (Int × List UInt8) := match fuel with
  | 0 => []
  | k + 1 => if f < e then (addI una f, (l.drop f).take (min (f + mss) e - f)) :: cutsR k una l mss (min (f + mss) e) e else []
theorem BytesV.grown {w w' : World} {row : Option Nat} {A : Option Addr} {n c : Nat} {l : List UInt8} (h : BytesV w (.slice A n c) l) (g : w.grownBy w' row) (hne : ∀ a, A = some a → row ≠ some a.block) : BytesV w' (.slice A n c) l := by
  obtain ⟨h1, h2, h3⟩ := h.form
  subst h1
  refine ⟨A, c, rfl, h2, h3, fun hp => ?_⟩
  obtain ⟨gb, o, rfl, hc⟩ := h.get hp
  exact ⟨gb, o, rfl, fun i x hx => cell_grown g (hc i x hx) (hne ⟨gb, o, none⟩ rfl)⟩
/-- the pieces' rows lie as told, none where the pieces' own row lies, none older than base -/
def PcsV (base : Nat) (w : World) (own : Option Nat) (l : List PC) (ps : List (Int × List UInt8)) : Prop :=
  l.length = ps.length ∧ ∀ (i : Nat) (x : PC) (p : Int × List UInt8), l[i]? = some x → ps[i]? = some p → x.sq = p.1 ∧ x.n = p.2.length ∧ 0 < p.2.length ∧ BytesV w (.slice x.A x.n x.c) p.2 ∧ (∀ a, x.A = some a → base ≤ a.block ∧ own ≠ some a.block)
theorem PcsV.nil (base : Nat) (w : World) (own : Option Nat) : PcsV base w own [] [] := ⟨rfl, fun i x p h => by simp at h⟩
theorem PcsV.keep0 {base : Nat} {w w' : World} {own : Option Nat} {l : List PC} {ps : List (Int × List UInt8)} (h : PcsV base w own l ps) (k : Keeps [] w w') : PcsV base w' own l ps :=
  ⟨h.1, fun i x p hx hp => by obtain ⟨h1, h2, h3, h4, h5⟩ := h.2 i x p hx hp; exact ⟨h1, h2, h3, h4.keep0 k, h5⟩⟩
theorem PcsV.keepb {base b : Nat} {w w' : World} {own : Option Nat} {l : List PC} {ps : List (Int × List UInt8)} (h : PcsV base w own l ps) (k : Keeps [b] w w') (hb : b < base) : PcsV base w' own l ps :=
  ⟨h.1, fun i x p hx hp => by
    obtain ⟨h1, h2, h3, h4, h5⟩ := h.2 i x p hx hp
    exact ⟨h1, h2, h3, h4.keepF k (fun a ha hm => by have := (h5 a ha).1; simp at hm; omega), h5⟩⟩
theorem PcsV.grown {base : Nat} {w w' : World} {own own' : Option Nat} {l : List PC} {ps : List (Int × List UInt8)} (h : PcsV base w own l ps) (g : w.grownBy w' own) (hat : own' = own ∨ own' = some w.heap.size) : PcsV base w' own' l ps :=
  ⟨h.1, fun i x p hx hp => by
    obtain ⟨h1, h2, h3, h4, h5⟩ := h.2 i x p hx hp
    refine ⟨h1, h2, h3, h4.grown g (fun a ha => (h5 a ha).2), fun a ha => ⟨(h5 a ha).1, ?_⟩⟩
    rcases hat with e | e
    · rw [e]; exact (h5 a ha).2
    · rw [e]
      intro he
      obtain ⟨gb, o, e2, hc⟩ := h4.get (by omega)
      rw [e2] at ha
      cases ha
      have := lt_of_cell (hc 0 _ (List.getElem?_eq_getElem h3))
      simp at he this
      omega⟩
theorem PcsV.snoc {base : Nat} {w : World} {own : Option Nat} {l : List PC} {ps : List (Int × List UInt8)} {x : PC} {p : Int × List UInt8} (h : PcsV base w own l ps) (h1 : x.sq = p.1) (h2 : x.n = p.2.length) (h3 : 0 < p.2.length) (h4 : BytesV w (.slice x.A x.n x.c) p.2) (h5 : ∀ a, x.A = some a → base ≤ a.block ∧ own ≠ some a.block) : PcsV base w own (l ++ [x]) (ps ++ [p]) := by
  refine ⟨by simp [h.1], fun i y q hy hq => ?_⟩
  by_cases hi : i < l.length
  · rw [List.getElem?_append_left hi] at hy
    rw [List.getElem?_append_left (by rw [← h.1]; exact hi)] at hq
    exact h.2 i y q hy hq
  · rw [List.getElem?_append_right (by omega)] at hy
    rw [List.getElem?_append_right (by rw [← h.1]; omega)] at hq
    have e0 : i - l.length = 0 := by
      have := (List.getElem?_eq_some_iff.1 hy).1
      simp at this
      exact this
    rw [← h.1] at hq
    rw [e0] at hy hq
    simp at hy hq
    subst hy hq
    exact ⟨h1, h2, h3, h4, h5⟩
theorem pc_one {w : World} {b : Nat} {q : Int} {A : Option Addr} {n c : Nat} {t : TypeId} {z : Nat × Nat} (h : w.heap[b]? = some (.cells #[.int .u32 q, .slice A n c] t z)) : pcK.At w (some ⟨b, 0, none⟩) [⟨q, A, n, c⟩] := by
  refine .inr ⟨b, 0, rfl, fun i x hx j u hu => ?_⟩
  have hi : i = 0 := by have := (List.getElem?_eq_some_iff.1 hx).1; simp at this; exact this
  subst hi
  simp at hx
  subst hx
  have hj := (List.getElem?_eq_some_iff.1 hu).1
  simp [pcK, cellsP] at hj
  obtain h0 | h0 : j = 0 ∨ j = 1 := by omega
  · subst h0
    simp [pcK, cellsP] at hu
    rw [← hu]; exact cell_of_block h 0
  · subst h0
    simp [pcK, cellsP] at hu
    rw [← hu]; exact cell_of_block h 1
set_option maxHeartbeats 800000 in
theorem xnext_any {w : World} {b b0 b1 b2 : Nat} {s : RX} (h : RxAt w b s) (mss e : Int) (ht : 0 ≤ s.sent ∧ s.sent ≤ 16384) (m : 1 ≤ mss ∧ mss ≤ 1500) (d0 : w.cell? ⟨b0, 0, none⟩ = some (.pointer (some ⟨b, 0, none⟩))) (d1 : w.cell? ⟨b1, 0, none⟩ = some (.int .i64 mss)) (d2 : w.cell? ⟨b2, 0, none⟩ = some (.int .i64 e)) :
    Calls Tryz.prog 99 #[.pointer (some ⟨b0, 0, none⟩), .pointer (some ⟨b1, 0, none⟩), .pointer (some ⟨b2, 0, none⟩)] w fun en w' => en = .returned (.int .i64 (min (s.sent + mss) e)) ∧ Keeps [] w w' := by
  have c2 := h.c2
  have i1 : IntKind.i64.wrap (s.sent + mss) = s.sent + mss := by rw [IntKind.wrap_i64]; omega
  obtain ⟨mn, hmn⟩ : ∃ mn, min (s.sent + mss) e = mn := ⟨_, rfl⟩
  rw [hmn]
  have j1 : (if e < s.sent + mss then e else s.sent + mss) = mn := by rw [← hmn]; split <;> omega
  clear h ht m
  go_enter Tryz.func99, Tryz.ntmps99
  go_upto_region 1 with fail
  go_quiet (fail)
  go_wp2_with fail
  go_ret
  exact ⟨rfl, by (repeat (first | with_reducible exact Keeps.refl _ _ | with_reducible apply Keeps.alloc' | with_reducible apply Keeps.drew' | with_reducible apply Keeps.drewN' | (with_reducible apply Keeps.setCell'; rotate_left; · simp)))⟩
theorem cutsR_step {k : Nat} {una : Int} {l : List UInt8} {mss f e : Nat} (h : f < e) : cutsR (k + 1) una l mss f e = (addI una f, (l.drop f).take (min (f + mss) e - f)) :: cutsR k una l mss (min (f + mss) e) e := by
  simp only [cutsR, h, if_true]
theorem cutsR_end {k : Nat} {una : Int} {l : List UInt8} {mss f e : Nat} (h : ¬ f < e) : cutsR k una l mss f e = [] := by
  cases k with
  | zero => rfl
  | succ k => simp only [cutsR, h, if_false]
theorem cutsR_fuel {una : Int} {l : List UInt8} {mss e : Nat} (hm : 1 ≤ mss) : ∀ {k k' f : Nat}, e - f ≤ k → e - f ≤ k' → cutsR k una l mss f e = cutsR k' una l mss f e
  | 0, k', f, h, h' => by rw [cutsR_end (show ¬ f < e by omega), cutsR_end (show ¬ f < e by omega)]
  | k + 1, 0, f, h, h' => by rw [cutsR_end (show ¬ f < e by omega), cutsR_end (show ¬ f < e by omega)]
  | k + 1, k' + 1, f, h, h' => by
    by_cases hf : f < e
    · rw [cutsR_step hf, cutsR_step hf, cutsR_fuel hm (k := k) (k' := k') (by omega) (by omega)]
    · rw [cutsR_end hf, cutsR_end hf]
theorem cutsR_next {una : Int} {l : List UInt8} {mss f e : Nat} (hm : 1 ≤ mss) (h : f < e) : cutsR e una l mss f e = (addI una f, (l.drop f).take (min (f + mss) e - f)) :: cutsR e una l mss (min (f + mss) e) e := by
  cases e with
  | zero => omega
  | succ e => rw [cutsR_step h, cutsR_fuel hm (k := e) (k' := e + 1) (by omega) (by omega)]
def RX.sendE (s : RX) : Nat := (min (s.data.length : Int) s.win).toNat
theorem EK.Own.keepb {α : Type} {e : EK α} {b : Nat} {w w' : World} {base : Nat} {el : TypeId} {v : Value} {l : List α} (h : e.Own w base el v l) (k : Keeps [b] w w') (hb : b < base) : e.Own w' base el v l := by
  refine ⟨h.1, ?_⟩
  rcases h.2 with h0 | ⟨g, cap, cur, e0, hg0, hg, hr⟩
  · exact .inl h0
  · have hlt : g < w.heap.size := (Array.getElem?_eq_some_iff.1 hg).1
    exact .inr ⟨g, cap, cur, e0, hg0, (k.block g hlt (by simp; omega)).trans hg, hr⟩
theorem Keeps.ownS {S : List Nat} {w w1 w' : World} {row : Option Nat} (k : Keeps S w w1) (g : w1.grownBy w' row) (hv : ∀ j, row = some j → w.heap.size ≤ j) : Keeps S w w' :=
  ⟨g.os.trans k.os, g.tape.trans k.tape, g.output.trans k.output, Nat.le_trans k.size g.size, fun j hj hn => (g.block j (Nat.lt_of_lt_of_le hj k.size) (fun h => by have := hv j h.symm; omega)).trans (k.block j hj hn)⟩
theorem calls_gnX {P : Program} {f : FuncId} {args : Array Value} {w : World} {R : Ending → World → Prop} (h : ∀ W, W = w → Calls P f args W R) : Calls P f args w R := h w rfl
set_option maxRecDepth 100000 in
set_option maxHeartbeats 4000000 in
theorem xsend_ok {w : World} {b : Nat} {s : RX} (h : RxAt w b s) (ok : s.Ok) (mss : Nat) (m0 : 1 ≤ mss) (m1 : mss ≤ 1500) :
    Calls Tryz.prog 83 #[.pointer (some ⟨b, 0, none⟩), .int .i64 mss] w fun e w' => ∃ v l, e = .returned (.tuple #[v, .int .i64 0]) ∧ OwnP w' w.heap.size v l ∧ PcsV w.heap.size w' v.ownBlock l (cutsR s.sendE s.una s.data mss s.sent.toNat s.sendE) ∧ RxAt w' b { s with sent := max s.sent s.sendE } ∧ Keeps [b] w w' := by
  obtain ⟨E, hE⟩ : ∃ E : Nat, s.sendE = E := ⟨_, rfl⟩
  obtain ⟨F, hF⟩ : ∃ F : Nat, s.sent = F := ⟨s.sent.toNat, by have := ok.sent; omega⟩
  have hEl : E ≤ s.data.length ∧ min (s.data.length : Int) s.win = (E : Int) := by
    have := ok.win
    rw [← hE]
    unfold RX.sendE
    omega
  have hFn : s.sent.toNat = F := by rw [hF]; rfl
  rw [hE, hFn, hF]
  have iN := hEl.2
  have HEL := Lib.hid (And.intro hEl.1 (show s.data.length ≤ 16384 from ok.len))
  have HFL := Lib.hid (show F ≤ s.data.length by have := ok.sent; omega)
  have HMS := Lib.hid (And.intro m0 m1)
  have hs0 : ({ s with sent := (F : Int) } : RX) = s := by cases s; simp only at hF; subst hF; rfl
  have H := Lib.hid (show RxAt w b { s with sent := (F : Int) } by rw [hs0]; exact h)
  have OK := Lib.hid ok
  have CN := Lib.hid (fun W (hW : RxAt W b { s with sent := (F : Int) }) => xnone_no hW ok.rto.1)
  have CM := Lib.hid (fun W => xmay_ok W mss (by omega) (by omega))
  have i4 : IntKind.i64.wrap s.win = s.win := by have := ok.win; rw [IntKind.wrap_i64]; omega
  have hlt := h.lt
  clear h ok hEl hFn hs0 m0 m1 hE hF
  go_enter Tryz.func83, Tryz.ntmps83
  go_wp2_with fail
  refine (CN.out _ (H.out.keep0 (by (repeat (first | with_reducible assumption | with_reducible exact Keeps.refl _ _ | with_reducible apply Keeps.alloc' | with_reducible apply Keeps.drew' | with_reducible apply Keeps.drewN' | (with_reducible apply Keeps.setCell'; rotate_left; · simp)))))).mono ?_
  rintro e w1 ⟨rfl, rfl⟩
  go_wp2_with fail
  refine (CM.out _).mono ?_
  rintro e w1 ⟨rfl, rfl⟩
  go_upto_region 5 with fail
  refine wp_gn (fun W1 hW1 => ?_)
  have k1 : Keeps [] w W1 := by rw [hW1]; (repeat (first | with_reducible assumption | with_reducible exact Keeps.refl _ _ | with_reducible apply Keeps.alloc' | with_reducible apply Keeps.drew' | with_reducible apply Keeps.drewN' | (with_reducible apply Keeps.setCell'; rotate_left; · simp)))
  have hbk : W1.heap[w.heap.size]? = some (.cells #[.pointer (some ⟨b, 0, none⟩)] 64 (0, 0)) ∧ W1.heap[w.heap.size + 1]? = some (.cells #[.int .i64 mss] 3 (0, 0)) := by rw [hW1]; exact two_allocs w _ _
  have H1 := Lib.hid (H.out.keep0 k1)
  have HB := Lib.hid hbk
  have K1 := Lib.hid k1
  have hsz1 : w.heap.size + 1 < W1.heap.size := lt_of_block hbk.2
  clear hW1 k1 hbk
  have c0 := H1.out.c0
  have c3 := H1.out.c3
  have d0 := cell_of_block HB.out.1 0
  simp at d0 c0 c3
  go_region_held3 (fun w' => w'.cell? ⟨w.heap.size, 0, none⟩ = some (.pointer (some ⟨b, 0, none⟩)) ∧ w'.cell? ⟨b, 0, none⟩ = some (.slice s.dataA s.data.length s.dataC) ∧ w'.cell? ⟨b, 3, none⟩ = some (.int .u32 s.win)) (go_keep) (fail)
  all_goals
    go_upto_region 8 with fail
    refine wp_gn (fun W2 hW2 => ?_)
    have k2 : Keeps [] W1 W2 := by rw [hW2]; (repeat (first | with_reducible assumption | with_reducible exact Keeps.refl _ _ | with_reducible apply Keeps.alloc' | with_reducible apply Keeps.drew' | with_reducible apply Keeps.drewN' | (with_reducible apply Keeps.setCell'; rotate_left; · simp)))
    have hb2 : W2.heap[W1.heap.size]? = some (.cells #[.int .i64 E] 3 (0, 0)) := by rw [hW2]; first | exact (MapKept.heap_alloc W1 _).1 | exact (MapKept.heap_alloc W1.drew _).1
    have HI := Lib.hid (show RxAt W2 b { s with sent := (F : Int) } ∧ W2.heap[w.heap.size]? = some (.cells #[.pointer (some ⟨b, 0, none⟩)] 64 (0, 0)) ∧ W2.heap[w.heap.size + 1]? = some (.cells #[.int .i64 mss] 3 (0, 0)) ∧ W2.heap[W1.heap.size]? = some (.cells #[.int .i64 E] 3 (0, 0)) ∧ Keeps [] w W2 from
      ⟨H1.out.keep0 k2, (k2.block _ (by omega) (by simp)).trans HB.out.1, (k2.block _ hsz1 (by simp)).trans HB.out.2, hb2, K1.out.trans k2⟩)
    clear hW2 k2 hb2 c0 c3 d0
    go_loopg [7, 9] (E - F) (fun g lv tv wx => ∃ (f : Nat) (l : List PC) (ps : List (Int × List UInt8)), OwnP wx (W1.heap.size + 1) lv l ∧ PcsV w.heap.size wx lv.ownBlock l ps ∧ ps ++ cutsR E s.una s.data mss f E = cutsR E s.una s.data mss F E ∧ (F ≤ f ∧ f ≤ max F E ∧ g = E - f ∧ l.length ≤ f) ∧ RxAt wx b { s with sent := (f : Int) } ∧ wx.heap[w.heap.size]? = some (.cells #[.pointer (some ⟨b, 0, none⟩)] 64 (0, 0)) ∧ wx.heap[w.heap.size + 1]? = some (.cells #[.int .i64 mss] 3 (0, 0)) ∧ wx.heap[W1.heap.size]? = some (.cells #[.int .i64 E] 3 (0, 0)) ∧ Keeps [b] w wx)
    case atStart =>
      obtain ⟨i1, i2, i3, i5, i6⟩ := HI.out
      exact ⟨F, [], [], EK.Own.nil _ _ _ _, PcsV.nil _ _ _, by simp, ⟨Nat.le_refl _, by omega, rfl, by simp⟩, i1, i2, i3, i5, i6.mono (by simp)⟩
    case round =>
      obtain ⟨f, l, ps, own, pcs, heq, ⟨hFf, hfE, rfl, hl⟩, hrx, hB0, hB1, hB2, hk⟩ := hrel
      have HOWN := Lib.hid own
      have HPCS := Lib.hid pcs
      have HEQ := Lib.hid heq
      have HRX := Lib.hid hrx
      have HK := Lib.hid hk
      have HBS := Lib.hid (And.intro hB0 (And.intro hB1 hB2))
      have HNN := Lib.hid (And.intro hFf (And.intro hfE hl))
      clear own pcs heq hrx hk hFf hfE hl HI
      have c2 := HRX.out.c2
      have d0 := cell_of_block hB0 0
      have d1 := cell_of_block hB1 0
      have d2 := cell_of_block hB2 0
      simp at d0 d1 d2 c2
      clear hB0 hB1 hB2
      by_cases hf : f < E
      · have hlt2 : (f : Int) < (E : Int) := by omega
        go_upto_region 8 with fail
        go_quiet (fail)
        go_wp2_with fail
        refine calls_gnX (fun W3 hW3 => ?_)
        have k3 : Keeps [] wr W3 := by rw [hW3]; (repeat (first | with_reducible assumption | with_reducible exact Keeps.refl _ _ | with_reducible apply Keeps.alloc' | with_reducible apply Keeps.drew' | with_reducible apply Keeps.drewN' | (with_reducible apply Keeps.setCell'; rotate_left; · simp)))
        have hc := xnext_any (HRX.out.keep0 k3) mss E (by have := HNN.out; have := HEL.out; have := HFL.out; simp only; omega) (by have := HMS.out; omega) (cell_keeps k3 d0 (by simp)) (cell_keeps k3 d1 (by simp)) (cell_keeps k3 d2 (by simp))
        have hmin : min ((f : Int) + mss) E = ((min (f + mss) E : Nat) : Int) := by omega
        simp only [hmin] at hc
        obtain ⟨T, hT⟩ : ∃ T, min (f + mss) E = T := ⟨_, rfl⟩
        rw [hT] at hc
        have HT := Lib.hid hT
        have HK3 := Lib.hid k3
        clear hW3 hmin hT
        refine hc.mono ?_
        clear hc
        rintro e w5 ⟨rfl, k5⟩
        have k35 := k3.trans k5
        have H5 := Lib.hid (HRX.out.keep0 k35)
        have O5 := Lib.hid (HOWN.out.keep0 k35)
        have P5 := Lib.hid (HPCS.out.keep0 k35)
        have B5 := Lib.hid (show w5.heap[w.heap.size]? = some (.cells #[.pointer (some ⟨b, 0, none⟩)] 64 (0, 0)) ∧ w5.heap[w.heap.size + 1]? = some (.cells #[.int .i64 mss] 3 (0, 0)) ∧ w5.heap[W1.heap.size]? = some (.cells #[.int .i64 E] 3 (0, 0)) from
          ⟨(k35.block _ (lt_of_block HBS.out.1) (by simp)).trans HBS.out.1, (k35.block _ (lt_of_block HBS.out.2.1) (by simp)).trans HBS.out.2.1, (k35.block _ (lt_of_block HBS.out.2.2) (by simp)).trans HBS.out.2.2⟩)
        have K5 := Lib.hid (HK.out.trans (k35.mono (by simp)))
        clear k3 k5 k35 HK3 c2 d0 d1 d2
        have c2 := H5.out.c2
        have d0 := cell_of_block B5.out.1 0
        simp at c2 d0
        have hft : f ≤ T := by have := HT.out; omega
        have hTd : T ≤ s.data.length := by have := HT.out; have := HEL.out; omega
        have hT1 : f < T := by have := HT.out; have := HMS.out; omega
        have hz0 : l.length + 1 ≤ 100000 := by have := HNN.out; have := HEL.out; have := HFL.out; omega
        have okf : ({ s with sent := (f : Int) } : RX).Ok := ⟨OK.out.una, OK.out.len, by have := HT.out; simp only; omega, OK.out.win, OK.out.rto, OK.out.tries, OK.out.cnt⟩
        have OKF := Lib.hid okf
        have hob : ∀ j, u7.ownBlock = some j → W1.heap.size + 1 ≤ j ∧ j < w5.heap.size := fun j hj => World.ownsRow.lt (show w5.ownsRow _ _ _ _ _ _ from O5.out) j hj
        have n0 : u7.ownBlock ≠ some w.heap.size := fun h => by have := hob _ h; omega
        have nb : u7.ownBlock ≠ some b := fun h => by have := hob _ h; omega
        have HOB := Lib.hid hob
        have hsz5 : W1.heap.size + 1 ≤ w5.heap.size := lt_of_block B5.out.2.2
        clear okf hob
        go_upto_region 10 with fail
        go_region_held3 (fun w' => w'.cell? ⟨w.heap.size, 0, none⟩ = some (.pointer (some ⟨b, 0, none⟩)) ∧ w'.cell? ⟨b, 2, none⟩ = some (.int .i64 f)) (first | exact ⟨d08, c28⟩ | (refine (fun kx => ⟨cell_keeps kx d0 (by simp), cell_keeps kx c2 (by simp)⟩ : Keeps [] w5 _ → _) ?_; (repeat (first | with_reducible assumption | with_reducible exact Keeps.refl _ _ | with_reducible apply Keeps.alloc' | with_reducible apply Keeps.drew' | with_reducible apply Keeps.drewN' | (with_reducible apply Keeps.setCell'; rotate_left; · simp))))) (first | ((refine step_append_E pcK (.tmp 37) (.tmp 45) 124 82 (W1.heap.size + 1) rfl Tryz.underlying124 Tryz.infoPiece (by rfl) (by decide) u7 l (by rfl) (O5.out.keep0 (kk6.alloc' _)) (some ⟨_, 0, none⟩) 1 [⟨addI s.una f, A6, T - f, c6⟩] (by rfl) (pc_one (MapKept.heap_alloc w6 _).1) (fun h => by cases h) (by simpa using hz0) (Nat.le_trans hsz5 (kk6.alloc' _).size) ?_); rintro v8 w8 o8 g8 a8; have d08 := cell_grown g8 (cell_keeps (kk6.alloc' _) d0 (by simp)) n0; have c28 := cell_grown g8 (cell_keeps (kk6.alloc' _) c2 (by simp)) nb) | (go_at_call 80; (with_reducible refine (xpiece_any (H5.out.keep0 (Keeps.drew [] _)) OKF.out f T hft hTd).mono ?_); rintro e w6 ⟨A6, c6, rfl, b6, f6, k6⟩; have kk6 : Keeps [] w5 w6 := Keeps.trans (Keeps.drew [] _) k6; clear k6) | fail)
        have k7 := kk6.alloc' (.cells #[.int .u32 (addI s.una f), .slice A6 (T - f) c6] 82)
        have hlen : ((s.data.drop f).take (T - f)).length = T - f := by simp; omega
        have K8 : Keeps [b] w w8 := Keeps.ownS (K5.out.trans (k7.mono (by simp))) g8 (fun j hj => by have := (HOB.out j hj).1; omega)
        have h8 : RxAt w8 b { s with sent := (f : Int) } := ⟨block_grown g8 ((k7.block b H5.out.lt (by simp)).trans H5.out.head) nb, H.out.data.keep K8 H.out.no⟩
        have p8 : PcsV w.heap.size w8 v8.ownBlock (l ++ [⟨addI s.una f, A6, T - f, c6⟩]) (ps ++ [(addI s.una f, (s.data.drop f).take (T - f))]) :=
          ((P5.out.keep0 k7).snoc (x := ⟨addI s.una f, A6, T - f, c6⟩) (p := (addI s.una f, (s.data.drop f).take (T - f))) rfl hlen.symm (by simp only [hlen]; omega) (b6.keep0 (Keeps.alloc [] w6 _)) (fun a ha => by
            have h1 := f6 a ha
            have h2 : w5.heap.size ≤ a.block := h1
            exact ⟨by omega, fun h => by have := (HOB.out a.block h).2; omega⟩)).grown g8 a8
        have n1 : u7.ownBlock ≠ some (w.heap.size + 1) := fun h => by have := (HOB.out _ h).1; omega
        have n2 : u7.ownBlock ≠ some W1.heap.size := fun h => by have := (HOB.out _ h).1; omega
        have B8 := Lib.hid (show w8.heap[w.heap.size]? = some (.cells #[.pointer (some ⟨b, 0, none⟩)] 64 (0, 0)) ∧ w8.heap[w.heap.size + 1]? = some (.cells #[.int .i64 mss] 3 (0, 0)) ∧ w8.heap[W1.heap.size]? = some (.cells #[.int .i64 E] 3 (0, 0)) from
          ⟨block_grown g8 ((k7.block _ (lt_of_block B5.out.1) (by simp)).trans B5.out.1) n0, block_grown g8 ((k7.block _ (lt_of_block B5.out.2.1) (by simp)).trans B5.out.2.1) n1, block_grown g8 ((k7.block _ (lt_of_block B5.out.2.2) (by simp)).trans B5.out.2.2) n2⟩)
        have H8 := Lib.hid h8
        have P8 := Lib.hid p8
        have HK8 := Lib.hid K8
        have O8 := Lib.hid o8
        have z2 := h8.fz 2
        have kS : Keeps [b] w8 (w8.setCell ⟨b, 2, none⟩ (.int .i64 T)) := Keeps.setCell w8 ⟨b, 2, none⟩ _
        have KS := Lib.hid kS
        clear k7 hlen K8 h8 p8 n1 n2 kS c2 d0 b6 f6 kk6 g8 a8 o8 nb n0 hz0
        go_wp2_with fail
        go_roundg (E - T)
        case measure => omega
        case rel =>
          have hnext := cutsR_next (una := s.una) (l := s.data) (f := f) (e := E) HMS.out.1 hf
          rw [HT.out] at hnext
          exact ⟨T, _, _, O8.out.keepb KS.out (by omega), P8.out.keepb KS.out (by omega), by rw [List.append_assoc, ← HEQ.out, hnext]; rfl, ⟨by have := HNN.out; omega, by have := HT.out; omega, rfl, by have := HNN.out; simp; omega⟩, H8.out.s2 _, (KS.out.block _ (lt_of_block B8.out.1) (by simp; omega)).trans B8.out.1, (KS.out.block _ (lt_of_block B8.out.2.1) (by simp; omega)).trans B8.out.2.1, (KS.out.block _ (lt_of_block B8.out.2.2) (by simp; omega)).trans B8.out.2.2, HK8.out.trans KS.out⟩
      · have hlt2 : ¬ (f : Int) < (E : Int) := by omega
        have hfm : (f : Int) = max (F : Int) (E : Int) := by have := HNN.out; omega
        have hps : ps = cutsR E s.una s.data mss F E := by rw [← HEQ.out, cutsR_end hf, List.append_nil]
        go_upto_region 8 with fail
        go_quiet (fail)
        go_wp2_with fail
        refine bodyPost_ret (v := .tuple #[u7, .int .i64 0]) (by simp [results, Tryz.results83, go_sem]) rfl ?_
        have kN : Keeps [] wr (wr.drewN nq) := Keeps.drewN [] wr nq
        have own : OwnP wr w.heap.size u7 l := own_lower' HOWN.out (by omega)
        exact ⟨u7, rfl, l, own.keep0 kN, by rw [← hps]; exact HPCS.out.keep0 kN, by rw [← hfm]; exact HRX.out.keep0 kN, HK.out.trans (kN.mono (by simp))⟩
end Go.Proofs.YtakgohocimlagaaGreat

