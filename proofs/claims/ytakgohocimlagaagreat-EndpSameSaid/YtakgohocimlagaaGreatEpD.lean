/-
  Laws for a client's bytes: append in a region that draws its order; what a Put, a Take and a store make of an end towards a client. Condition: the numbers are in the ranges of their kinds.
-/
import Derived.Test.YtakgohocimlagaaGreatEpC
namespace Go.Proofs.YtakgohocimlagaaGreat
open Go.RowKit
set_option linter.unusedVariables false
set_option linter.unusedSimpArgs false

theorem step_append_bytes {P : Program} {w : World} {ops : Array Oper} {o : Oper} {a : Act} {K : Act → World → Prop} {Q : Exit → Act → World → Prop} {E : Prop} (hgd : o.guard = none) (s x : Operand) (base t e : Nat)
    (ho : o.op = .call { callee := .builtin .append, args := #[s, x], argTypes := #[t, t] })
    (ht : P.underlying t = some (.slice e)) (hi : (P.info? e).map (fun i => (i.zero, i.size, i.bytes)) = some (some (.int .u8 0), 1, 1))
    (v : Value) (n : Nat) (xs : List UInt8) (hs : a.eval s = v) (hown : w.ownsRow base e 1 v n (xs.map u8V)) (y : Value) (l : List UInt8) (hx : a.eval x = y) (hy : BytesV w y l) (hn : n + l.length ≤ 1099511627776) (hbase : base ≤ w.heap.size)
    (h : ∀ v' w', w'.ownsRow base e 1 v' (n + l.length) ((xs ++ l).map u8V) → w.grownBy w' v.ownBlock → (v'.ownBlock = v.ownBlock ∨ v'.ownBlock = some w.heap.size) → K (a.put o.dst v') w') :
    if Region.wanted o (yielded ops a.tmps) = true then Oper.wp P o a w K Q else E := by
  have hw : Region.wanted o (yielded ops a.tmps) = true := by simp [Region.wanted, hgd]
  rw [if_pos hw]
  obtain ⟨v', w', hrun, h2, h3, h4, h5⟩ := run_append_bytes (P := P) w base t o.type e ht hi v n xs hown y l hy hn hbase
  unfold Oper.wp execOp
  simp only [ho, resolve, invoke, builtin, Sem.run_bind, Sem.run_pure, Result.andThen_ok, List.map_toArray, List.map_cons, List.map_nil, hs, hx, hrun]
  exact h v' w' h2 h3 h4
theorem cell_grown {w w' : World} {row : Option Nat} (g : w.grownBy w' row) {a : Addr} {v : Value} (h : w.cell? a = some v) (hne : row ≠ some a.block) : w'.cell? a = some v :=
  (World.cell?_of_block (w := w) (g.block _ (lt_of_cell h) (fun e => hne e.symm))).trans h
theorem block_grown {w w' : World} {row : Option Nat} (g : w.grownBy w' row) {j : Nat} {o : Obj} (h : w.heap[j]? = some o) (hne : row ≠ some j) : w'.heap[j]? = some o :=
  (g.block _ (lt_of_block h) (fun e => hne e.symm)).trans h

theorem own_keepsS {w w' : World} {B e sz n : Nat} {v : Value} {xs : List Value} {S : List Nat} (h : w.ownsRow B e sz v n xs) (k : Keeps S w w') (hS : ∀ j, v.ownBlock = some j → j ∉ S) : w'.ownsRow B e sz v n xs := by
  refine ⟨h.1, ?_⟩
  rcases h.2 with h0 | ⟨g, cap, cur, rfl, hb, hg, hr⟩
  · exact .inl h0
  · exact .inr ⟨g, cap, cur, rfl, hb, (k.block g (lt_of_block hg) (hS g rfl)).trans hg, hr⟩
theorem EndAt.grown {w w' : World} {row : Option Nat} {x : Nat} {s : ES} (h : EndAt w x s) (g : w.grownBy w' row) (hne : row ≠ some x) : EndAt w' x s := block_grown g h hne
theorem wp_hideQ {P : Program} {c : Code} {Q : Exit → Act → World → Prop} {a : Act} {w : World} (h : ∀ Q' : Exit → Act → World → Prop, (∀ e a w, Q e a w → Q' e a w) → c.wp P Q' a w) : c.wp P Q a w := h Q (fun _ _ _ h => h)
theorem quiet_same {P : Program} {f : FuncId} {args : Array Value} {w : World} {n : Nat} {v : Value}
    (h : Calls P f args (w.drewN n) fun e w' => e = .returned v ∧ w.drewN n = w') : Calls P f args (w.drewN n) fun e w'' => e = .returned v ∧ ∃ m, w'' = w.drewN m :=
  h.mono fun _ _ ⟨he, hm⟩ => ⟨he, n, hm.symm⟩
/-- What a Put makes of a buffer: nothing where the holes would be too many. -/
def BS.put (s : BS) (a : Int) (data : List UInt8) : BS := if 16 < s.holes a data then s else { s with m := s.anew a data }
theorem BS.put_ok {s : BS} (ok : s.ok) {a : Int} (ha : U32 a) (data : List UInt8) (hd : data.length ≤ 1048576) : (s.put a data).ok := by
  unfold BS.put
  split
  · exact ok
  · exact BS.anew_ok ok ha data hd
theorem BS.put_taken (s : BS) (a : Int) (data : List UInt8) : (s.put a data).taken = s.taken ∧ (s.put a data).room = s.room ∧ (s.put a data).first = s.first := by
  unfold BS.put
  split <;> exact ⟨rfl, rfl, rfl⟩
theorem bput_do {w : World} {b mb : Nat} {s : BS} (h : BuffAt w b mb s) (ok : s.ok) (a : Int) (ha : U32 a) (A : Option Addr) (n c : Nat) (data : List UInt8) (hv : BytesV w (.slice A n c) data) (hn : n ≤ 1048576) :
    Calls Tryz.prog 68 #[.pointer (some ⟨b, 0, none⟩), .int .u32 a, .slice A n c] w fun e w' => ∃ z1 z2, e = .returned (.tuple #[.int .i64 z1, .int .i64 z2]) ∧ Keeps [b] w w' ∧ ∃ mb', BuffAt w' b mb' (s.put a data) ∧ (mb' = mb ∨ w.heap.size ≤ mb') := by
  refine (bput_any h ok a ha A n c data hv hn).mono ?_
  rintro e w' (⟨h1, rfl, k⟩ | ⟨h1, rfl, k, mb', h2, h3⟩)
  · exact ⟨_, _, rfl, k.mono (by simp), mb, by unfold BS.put; rw [if_pos h1]; exact h.keep k (by simp) (by simp), .inl rfl⟩
  · exact ⟨_, _, rfl, k, mb', by unfold BS.put; rw [if_neg (by omega)]; exact h2, .inr h3⟩

theorem Cli.no {w : World} {B x b mb : Nat} {s : ES} {st : BS} {tl : List UInt8} (h : Cli w B x b mb s st tl) : NoU8 w x := by
  obtain ⟨A, c, ht⟩ := own_slice h.own
  intro i y hx
  rw [cell_of_block h.e i] at hx
  match i, hx with
  | 16, hx => simp [ES.cells, h.inp] at hx
  | 17, hx => simp [ES.cells, ht] at hx
  | 19, hx => simp [ES.cells, h.out] at hx
  | 20, hx => simp [ES.cells, h.wri] at hx
  | 0, hx | 1, hx | 2, hx | 3, hx | 4, hx | 5, hx | 6, hx | 7, hx | 8, hx | 9, hx | 10, hx | 11, hx | 12, hx | 13, hx | 14, hx | 15, hx | 18, hx | 21, hx | 22, hx | 23, hx => simp [ES.cells] at hx
  | i + 24, hx => simp [ES.cells] at hx
/-- What both have that a segment does not change. -/
structure ES.Same (s s' : ES) : Prop where
  loc : s'.loc = s.loc
  rem : s'.rem = s.rem
  iss : s'.iss = s.iss
  sscl : s'.sscl = s.sscl
  scl : s'.scl = s.scl
  irs : s'.irs = s.irs
  st : s'.st = s.st
  inp : s'.inp = s.inp
  out : s'.out = s.out
  wri : s'.wri = s.wri
theorem ES.Same.ok {s s' : ES} (h : ES.Same s s') (ok : s.Ok) : s'.Ok :=
  ⟨by rw [h.loc]; exact ok.loc, by rw [h.rem]; exact ok.rem, by rw [h.iss]; exact ok.iss, by rw [h.scl, h.sscl]; exact ok.sscl, by rw [h.sscl]; exact ok.sscl', by rw [h.scl]; exact ok.scl, by rw [h.irs]; exact ok.irs⟩
theorem Cli.upd {w w' : World} {B x b mb : Nat} {s s' : ES} {st : BS} {tl : List UInt8} (h : Cli w B x b mb s st tl) (k : Keeps [x] w w') (he : EndAt w' x s') (hs : ES.Same s s') (ht : s'.tak = s.tak) : Cli w' B x b mb s' st tl := by
  have h1 := h.xb
  have h2 := h.xm
  refine ⟨he, hs.ok h.ok, by rw [hs.st]; exact h.st2, by rw [hs.inp]; exact h.inp, by rw [hs.out]; exact h.out, by rw [hs.wri]; exact h.wri, h.bf.keep k (by simp; omega) (by simp; omega), h.okb, ?_, by rw [ht]; exact h.sep, h.xb, h.xm, h.zx, h.zb, h.zm, h.len⟩
  rw [ht]
  refine ⟨h.own.1, ?_⟩
  rcases h.own.2 with h0 | ⟨g, cap, cur, e, hb, hg, hr⟩
  · exact .inl h0
  · exact .inr ⟨g, cap, cur, e, hb, (k.block g (lt_of_block hg) (by have := h.sep g (by rw [e]; rfl); simp; omega)).trans hg, hr⟩
/-- Behind a Put. -/
theorem Cli.putB {w w' : World} {B x b mb mb' : Nat} {s : ES} {st st' : BS} {tl : List UInt8} (h : Cli w B x b mb s st tl) (k : Keeps [b] w w') (hb : BuffAt w' b mb' st') (okb : st'.ok) (ht : st'.taken = st.taken) (hm : mb' = mb ∨ w.heap.size ≤ mb') : Cli w' B x b mb' s st' tl := by
  have h1 := h.xb
  have h2 := h.xm
  have hz := h.e.lt
  have hzz := k.size
  have zx := h.zx
  refine ⟨h.e.keep k (by simp; omega), h.ok, h.st2, h.inp, h.out, h.wri, hb, okb, ?_, fun j hj => ?_, h.xb, by omega, h.zx, h.zb, by have := h.zm; omega, by rw [ht]; exact h.len⟩
  · refine ⟨h.own.1, ?_⟩
    rcases h.own.2 with h0 | ⟨g, cap, cur, e, hb, hg, hr⟩
    · exact .inl h0
    · exact .inr ⟨g, cap, cur, e, hb, (k.block g (lt_of_block hg) (by have := h.sep g (by rw [e]; rfl); simp; omega)).trans hg, hr⟩
  · have := h.sep j hj
    have := (h.own.lt j hj).2
    refine ⟨by omega, by omega, ?_⟩
    rcases hm with rfl | hm <;> omega
/-- Behind a Take whose bytes were laid behind the others. -/
theorem Cli.took {w w6 w8 : World} {B x b mb : Nat} {s : ES} {st : BS} {tl : List UInt8} {v8 : Value} (h : Cli w B x b mb s st tl) (k6 : Keeps [b, mb] w w6) (hb6 : BuffAt w6 b mb st.take)
    (hown8 : w8.ownsRow B 5 1 v8 (tl.length + st.out.length) ((tl ++ st.out).map u8V)) (hg8 : w6.grownBy w8 s.tak.ownBlock) (hat : v8.ownBlock = s.tak.ownBlock ∨ v8.ownBlock = some w6.heap.size) :
    Cli (w8.setCell ⟨x, 17, none⟩ v8) B x b mb { s with tak := v8 } st.take (tl ++ st.out) ∧ Keeps (footC x b mb s) w (w8.setCell ⟨x, 17, none⟩ v8) ∧ (v8.ownBlock = s.tak.ownBlock ∨ ∃ j, v8.ownBlock = some j ∧ w.heap.size ≤ j) := by
  have h1 := h.xb
  have h2 := h.xm
  have z6 := k6.size
  have lx := h.e.lt
  have lb := lt_of_block h.bf.head
  have lm := h.bf.map.lt
  have hsep := h.sep
  have e6 : EndAt w6 x s := h.e.keep k6 (by simp; omega)
  have e8 : EndAt w8 x s := block_grown hg8 e6 (fun e => (hsep x e).1 rfl)
  have hbh : w8.heap[b]? = w6.heap[b]? := hg8.block b (by omega) (fun e => (hsep b e.symm).2.1 rfl)
  have hbm : w8.heap[mb]? = w6.heap[mb]? := hg8.block mb (by omega) (fun e => (hsep mb e.symm).2.2 rfl)
  have hv8 : ∀ j, v8.ownBlock = some j → j ≠ x ∧ j ≠ b ∧ j ≠ mb := by
    intro j hj
    rcases hat with h0 | h0
    · exact hsep j (by rw [← h0]; exact hj)
    · rw [h0] at hj
      injection hj with hj
      omega
  refine ⟨⟨e8.s17 v8, ES.Same.ok (s := s) ⟨rfl, rfl, rfl, rfl, rfl, rfl, rfl, rfl, rfl, rfl⟩ h.ok, h.st2, h.inp, h.out, h.wri, ⟨?_, ?_⟩, BS.take_ok h.okb, ?_, hv8, h.xb, h.xm, h.zx, h.zb, h.zm, ?_⟩, ?_, ?_⟩
  · rw [Below.heap_setCell _ _ _ _ (show b ≠ x by omega), hbh]; exact hb6.head
  · exact hb6.map.of_heap (by rw [Below.heap_setCell _ _ _ _ (show mb ≠ x by omega), hbm])
  · have := hown8.kept (Keeps.setCell w8 ⟨x, 17, none⟩ v8).toGrown (Or.inr (fun e => (hv8 x e).1 rfl))
    rw [List.length_append]
    exact this
  · have := h.len
    have h3 : st.out.length = st.ready := bytesN_len _ _ _
    rw [List.length_append, h3]
    show ((tl.length + st.ready : Nat) : Int) = st.taken + st.ready
    omega
  · refine ⟨hg8.os.trans k6.os, hg8.tape.trans k6.tape, hg8.output.trans k6.output, ?_, fun j hj hS => ?_⟩
    · have := hg8.size
      simp [World.setCell]
      omega
    · simp only [footC, List.mem_cons, not_or] at hS
      obtain ⟨s1, s2, s3, s4⟩ := hS
      rw [Below.heap_setCell _ _ _ _ (by simpa using s1)]
      rw [hg8.block j (by omega) (fun e => s4 (by rw [← e]; simp))]
      exact k6.block j hj (by simp; omega)
  · rcases hat with h0 | h0
    · exact .inl h0
    · exact .inr ⟨_, h0, z6⟩
end Go.Proofs.YtakgohocimlagaaGreat
