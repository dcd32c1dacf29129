/-
  Two ends towards a client that stand alike, side by side in memory: what the same segment makes of both. No condition but the sizes.
-/
import Derived.Test.YtakgohocimlagaaGreatEpQ
import Derived.Test.YtakgohocimlagaaGreatEpM
import Derived.Test.YtakgohocimlagaaGreatMay
namespace Go.Proofs.YtakgohocimlagaaGreat
open Go.RowKit
set_option linter.unusedVariables false
set_option linter.unusedSimpArgs false

/-- the sort of a segment, wherever the end stands -/
def sameK (s : ES) (st : BS) (g : Seg) : Nat := if s.st = 3 then 0 else cliK s st g
theorem etake_all {w : World} {B x b mb : Nat} {s : ES} {st : BS} {tl : List UInt8} (h : Cli w B x b mb s st tl) (h23 : s.st = 2 ∨ s.st = 3) (g : Seg) (og : g.Ok) (Ao Ad : Option Addr) (no co cd : Nat) (hd : BytesV w (.slice Ad g.data.length cd) g.data) (hn : g.data.length ≤ 1048576) (now : Int) :
    Calls Tryz.prog 12 #[.pointer (some ⟨x, 0, none⟩), segV g (.slice Ao no co) (.slice Ad g.data.length cd), .int .u64 now] w fun e w' => ∃ v, e = .returned (.tuple #[v, .int .i64 0]) ∧ Behind w w' B x b mb s st tl g (sameK s st g) v := by
  rcases h23 with h2 | h3
  · have e : sameK s st g = cliK s st g := by unfold sameK; rw [if_neg (by omega)]
    rw [e]
    exact etake_cli h h2 g og Ao Ad no co cd hd hn now
  · have e : sameK s st g = 0 := by unfold sameK; rw [if_pos h3]
    rw [e]
    exact (etake_3 h.e h3 g _ _ now).mono fun e w' ⟨he, k⟩ => ⟨_, he, Behind.same h g 0 (.inl rfl) (.inl ⟨rfl, rfl⟩) k⟩
/-- y, beside x -/
def ES.beside (s : ES) (b2 : Nat) (t2 : Value) : ES := { s with inp := .pointer (some ⟨b2, 0, none⟩), tak := t2 }
theorem Cli.foot_lt {w : World} {B x b mb : Nat} {s : ES} {st : BS} {tl : List UInt8} (h : Cli w B x b mb s st tl) : ∀ j ∈ footC x b mb s, j < w.heap.size := by
  intro j hj
  simp only [footC, List.mem_cons, Option.mem_toList] at hj
  rcases hj with h0 | h0 | h0 | h0
  · rw [h0]; exact h.e.lt
  · rw [h0]; exact lt_of_block h.bf.head
  · rw [h0]; exact h.bf.map.lt
  · exact (h.own.lt j h0).2
theorem Cli.foot_ge {w : World} {B x b mb : Nat} {s : ES} {st : BS} {tl : List UInt8} (h : Cli w B x b mb s st tl) : ∀ j ∈ footC x b mb s, B ≤ j := by
  intro j hj
  simp only [footC, List.mem_cons, Option.mem_toList] at hj
  rcases hj with h0 | h0 | h0 | h0
  · rw [h0]; exact h.zx
  · rw [h0]; exact h.zb
  · rw [h0]; exact h.zm
  · exact (h.own.lt j h0).1
theorem Told.keepS {n : Nat} {w w' : World} {v : Value} {is : Bool} {g : Seg} {S : List Nat} (h : Told n w v is g) (k : Keeps S w w') (hS : ∀ j ∈ S, j < n) : Told n w' v is g := by
  rcases h with h | ⟨h1, r, e, h2, h3⟩
  · exact .inl h
  · exact .inr ⟨h1, r, e, h2, (k.block r (lt_of_block h3) (fun hm => by have := hS r hm; omega)).trans h3⟩
theorem Told.slice {n : Nat} {w : World} {v : Value} {is : Bool} {g : Seg} (h : Told n w v is g) : ∃ A m c, v = .slice A m c ∧ m ≤ 1 := by
  rcases h with ⟨_, rfl⟩ | ⟨_, r, rfl, _⟩
  · exact ⟨_, _, _, rfl, by omega⟩
  · exact ⟨_, _, _, rfl, by omega⟩

/-- x and y lie side by side and stand alike. -/
structure EqAt (w : World) (B x b mb : Nat) (s : ES) (y b2 mb2 : Nat) (t2 : Value) (st : BS) (tl : List UInt8) : Prop where
  cx : Cli w B x b mb s st tl
  cy : Cli w B y b2 mb2 (s.beside b2 t2) st tl
  ap : ∀ j ∈ footC x b mb s, j ∉ footC y b2 mb2 (s.beside b2 t2)
  st23 : s.st = 2 ∨ s.st = 3
  rdy : st.ready = 0
theorem EqAt.keep0 {w w' : World} {B x b mb : Nat} {s : ES} {y b2 mb2 : Nat} {t2 : Value} {st : BS} {tl : List UInt8} (h : EqAt w B x b mb s y b2 mb2 t2 st tl) (k : Keeps [] w w') : EqAt w' B x b mb s y b2 mb2 t2 st tl :=
  ⟨h.cx.keep0 k, h.cy.keep0 k, h.ap, h.st23, h.rdy⟩
theorem EqAt.mk' {w w' : World} {B x b mb : Nat} {s : ES} {st : BS} {tl : List UInt8} (h : Cli w B x b mb s st tl) (h23 : s.st = 2 ∨ s.st = 3) (r0 : st.ready = 0) {y b2 mb2 : Nat} {t2 : Value} (hy : Cli w' B y b2 mb2 (s.beside b2 t2) st tl) (k : Keeps [] w w') (hf : ∀ j ∈ footC y b2 mb2 (s.beside b2 t2), w.heap.size ≤ j) : EqAt w' B x b mb s y b2 mb2 t2 st tl :=
  ⟨h.keep0 k, hy, fun j hj hm => by have := h.foot_lt j hj; have := hf j hm; omega, h23, r0⟩
/-- x took the segment: y lies as it did -/
theorem EqAt.first {w w1 : World} {B x b mb : Nat} {s : ES} {y b2 mb2 : Nat} {t2 : Value} {st : BS} {tl : List UInt8} (h : EqAt w B x b mb s y b2 mb2 t2 st tl) {g : Seg} {v : Value} (hb : Behind w w1 B x b mb s st tl g (sameK s st g) v) : Cli w1 B y b2 mb2 (s.beside b2 t2) st tl := by
  obtain ⟨s', mb', hc, hs, ht, hk, hf⟩ := hb
  exact h.cy.keep hk (fun j hj hm => h.ap j hm hj)
theorem nEnd_st (k : Nat) (s : ES) (st : BS) (tak : Value) (g : Seg) (h : s.st = 2 ∨ s.st = 3) : (nEnd k s st tak g).st = 2 ∨ (nEnd k s st tak g).st = 3 := by
  unfold nEnd
  split
  · exact h
  · split
    · exact .inr rfl
    · exact h
theorem nSt_ready {s : ES} {st : BS} {tl : List UInt8} (ok : st.ok) (r0 : st.ready = 0) (k : Nat) (g : Seg) (og : g.Ok) (hn : g.data.length ≤ 1048576) : (nSt k st g).ready = 0 := by
  unfold nSt
  split
  · exact BS.take_ready (BS.put_ok ok og.sq g.data hn)
  · exact r0
theorem ackC_beside (s : ES) (b2 : Nat) (t2 : Value) (st : BS) : (s.beside b2 t2).ackC st = s.ackC st := rfl
theorem sameK_beside (s : ES) (b2 : Nat) (t2 : Value) (st : BS) (g : Seg) : sameK (s.beside b2 t2) st g = sameK s st g := rfl
theorem nEnd_beside {k : Nat} {s : ES} {st : BS} {g : Seg} {b2 : Nat} {t2 : Value} {sx sy : ES} (hx : sx = nEnd k s st sx.tak g) (hy : sy = nEnd k (s.beside b2 t2) st sy.tak g) : sy = sx.beside b2 sy.tak := by
  unfold nEnd at hx hy
  by_cases h3 : k = 3
  · rw [if_pos h3] at hx hy
    rw [hx]
    exact hy
  · rw [if_neg h3] at hx hy
    by_cases h2 : k = 2
    · rw [if_pos h2] at hx hy
      rw [hx, hy]
      rfl
    · rw [if_neg h2] at hx hy
      rw [hx, hy]
      rfl
/-- both took the segment: they stand alike again, and told the same -/
theorem EqAt.both {w w1 w2 : World} {B x b mb : Nat} {s : ES} {y b2 mb2 : Nat} {t2 : Value} {st : BS} {tl : List UInt8} (h : EqAt w B x b mb s y b2 mb2 t2 st tl) {g : Seg} (og : g.Ok) (hn : g.data.length ≤ 1048576) {v1 v2 : Value}
    (hx : Behind w w1 B x b mb s st tl g (sameK s st g) v1) (hy : Behind w1 w2 B y b2 mb2 (s.beside b2 t2) st tl g (sameK s st g) v2) :
    ∃ sx mbx mby ty, EqAt w2 B x b mbx sx y b2 mby ty (nSt (sameK s st g) st g) (nTl (sameK s st g) st tl g) ∧ sx = nEnd (sameK s st g) s st sx.tak g ∧ Keeps (footC x b mb s ++ footC y b2 mb2 (s.beside b2 t2)) w w2 ∧
      Told w.heap.size w2 v1 (nTold (sameK s st g) g) (sx.ackC (nSt (sameK s st g) st g)) ∧ Told w1.heap.size w2 v2 (nTold (sameK s st g) g) (sx.ackC (nSt (sameK s st g) st g)) := by
  obtain ⟨sx, mbx, cx, ex, tx, kx, fx⟩ := hx
  obtain ⟨sy, mby, cy, ey, ty, ky, fy⟩ := hy
  have e := nEnd_beside ex ey
  have hlx := h.cx.foot_lt
  have hly := h.cy.foot_lt
  have hl1 := cx.foot_lt
  rw [e] at cy ty fy
  rw [ackC_beside] at ty
  have hap : ∀ j ∈ footC x b mbx sx, j ∉ footC y b2 mb2 (s.beside b2 t2) := fun j hj hm => by
    rcases fx j hj with h0 | h0
    · exact h.ap j h0 hm
    · have := hly j hm; omega
  refine ⟨sx, mbx, mby, sy.tak, ⟨cx.keep ky hap, cy, fun j hj hm => ?_, ?_, ?_⟩, ex, ?_, ?_, ty⟩
  · rcases fy j hm with h0 | h0
    · exact hap j hj h0
    · have := hl1 j hj; omega
  · rw [ex]; exact nEnd_st _ _ _ _ _ h.st23
  · exact nSt_ready (s := s) (tl := tl) h.cx.okb h.rdy _ g og hn
  · exact (kx.mono (by simp; exact fun j hj => .inl hj)).trans (ky.mono (by simp; exact fun j hj => .inr hj))
  · exact tx.keepS ky hly
/-- the same segment a second time: no more is taken -/
theorem second {s : ES} {st : BS} {tl : List UInt8} {g : Seg} {tak : Value} {b2 : Nat} {t2 : Value} (ok : st.ok) (r0 : st.ready = 0) (og : g.Ok) (hn : g.data.length ≤ 1048576) :
    nTl (sameK ((nEnd (sameK s st g) s st tak g).beside b2 t2) (nSt (sameK s st g) st g) g) (nSt (sameK s st g) st g) (nTl (sameK s st g) st tl g) g = nTl (sameK s st g) st tl g := by
  rw [sameK_beside]
  by_cases h3 : sameK s st g = 3
  · rw [h3]
    unfold nTl nSt
    rw [if_pos rfl]
    have hr := put_again ok r0 og.sq g.data hn
    by_cases hk : sameK (nEnd 3 s st tak g) (st.put g.sq g.data).take g = 3
    · rw [if_pos hk]
      simp only [if_true]
      have : ((st.put g.sq g.data).take.put g.sq g.data).out = [] := by unfold BS.out; rw [hr]; rfl
      rw [this, List.append_nil]
    · rw [if_neg hk]
  · have e1 : nSt (sameK s st g) st g = st := by unfold nSt; rw [if_neg h3]
    have e2 : nTl (sameK s st g) st tl g = tl := by unfold nTl; rw [if_neg h3]
    rw [e1, e2]
    have h4 : sameK (nEnd (sameK s st g) s st tak g) st g ≠ 3 := by
      unfold nEnd
      rw [if_neg h3]
      by_cases h2 : sameK s st g = 2
      · rw [if_pos h2]
        unfold sameK
        simp
      · rw [if_neg h2]
        exact h3
    unfold nTl
    rw [if_neg h4]
theorem may_len {g : Seg} (hm : mayB g.ops g.data.length = true) (hb : g.data.length ≤ 140737488355328) : g.data.length ≤ 1460 := by
  unfold mayB putOk at hm
  simp only [Bool.and_eq_true, decide_eq_true_eq] at hm
  obtain ⟨⟨_, h1⟩, h2⟩ := hm
  have hp : padN (totO g.ops) ≤ 3 := by unfold padN; omega
  rw [IntKind.wrap_i64] at h2
  omega

set_option maxRecDepth 100000 in
/-- the law's own same -/
theorem lsame_told (w : World) {n m : Nat} {v1 v2 : Value} {is : Bool} {g : Seg} (h1 : Told n w v1 is g) (h2 : Told m w v2 is g) :
    Calls Tryz.prog 13 #[v1, v2] w fun e w' => e = .returned (.bool true) ∧ Keeps [] w w' := by
  have H := Lib.hid (fun (W : World) (k : Keeps [] w W) => r20same_told W (h1.mono k (Nat.le_refl _)) (h2.mono k (Nat.le_refl _)))
  clear h1 h2
  go_enter Tryz.func13, Tryz.ntmps13
  go_wp2_with fail
  refine (H.out _ (Keeps.refl _ _)).mono ?_
  rintro e w1 ⟨rfl, k⟩
  have K := Lib.hid k
  clear k
  go_wp2_with fail
  go_ret
  exact ⟨rfl, K.out⟩
end Go.Proofs.YtakgohocimlagaaGreat
