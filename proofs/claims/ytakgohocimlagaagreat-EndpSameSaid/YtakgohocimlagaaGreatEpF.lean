/-
  The walks of package endp (5): a client's segment, whatever it is; Take. Condition: the numbers are in the ranges of their kinds; at most 2^20 bytes of data.
-/
import Derived.Test.YtakgohocimlagaaGreatEpE
namespace Go.Proofs.YtakgohocimlagaaGreat
open Go.RowKit
set_option linter.unusedVariables false
set_option linter.unusedSimpArgs false

/-! what a client's segment of sort k makes -/
def nSt (k : Nat) (st : BS) (g : Seg) : BS := if k = 3 then (st.put g.sq g.data).take else st
def nTl (k : Nat) (st : BS) (tl : List UInt8) (g : Seg) : List UInt8 := if k = 3 then tl ++ (st.put g.sq g.data).out else tl
def nTold (k : Nat) (g : Seg) : Bool := if k = 3 then toldC g else decide (k = 1)
def nEnd (k : Nat) (s : ES) (st : BS) (tak : Value) (g : Seg) : ES :=
  if k = 3 then { s with win := winI g.wn s.scl, tak := tak, ended := s.ended || endsC (st.put g.sq g.data).take g } else if k = 2 then { s with st := 3 } else s
/-- what is found behind a client's segment -/
def Behind (w w' : World) (B x b mb : Nat) (s : ES) (st : BS) (tl : List UInt8) (g : Seg) (k : Nat) (v : Value) : Prop :=
  ∃ s' mb', Cli w' B x b mb' s' (nSt k st g) (nTl k st tl g) ∧ s' = nEnd k s st s'.tak g ∧ Told w.heap.size w' v (nTold k g) (s'.ackC (nSt k st g)) ∧ Keeps (footC x b mb s) w w' ∧ ∀ j ∈ footC x b mb' s', j ∈ footC x b mb s ∨ w.heap.size ≤ j
theorem Behind.same {w w' : World} {B x b mb : Nat} {s : ES} {st : BS} {tl : List UInt8} (h : Cli w B x b mb s st tl) (g : Seg) (k : Nat) (hk : k = 0 ∨ k = 1) {v : Value} (ht : Told w.heap.size w' v (decide (k = 1)) (s.ackC st)) (hK : Keeps [] w w') : Behind w w' B x b mb s st tl g k v := by
  have h3 : k ≠ 3 := by omega
  have h2 : k ≠ 2 := by omega
  refine ⟨s, mb, ?_, ?_, ?_, hK.mono (by simp), fun j hj => .inl hj⟩
  · unfold nSt nTl; rw [if_neg h3, if_neg h3]; exact h.keep0 hK
  · unfold nEnd; rw [if_neg h3, if_neg h2]
  · unfold nTold nSt; rw [if_neg h3, if_neg h3]; exact ht

theorem client_any {w : World} {B x b mb : Nat} {s : ES} {st : BS} {tl : List UInt8} (h : Cli w B x b mb s st tl) (g : Seg) (og : g.Ok) (Ao Ad : Option Addr) (no co cd : Nat) (hd : BytesV w (.slice Ad g.data.length cd) g.data) (hn : g.data.length ≤ 1048576) :
    Calls Tryz.prog 40 #[.pointer (some ⟨x, 0, none⟩), segV g (.slice Ao no co) (.slice Ad g.data.length cd)] w fun e w' => ∃ v, e = .returned v ∧ Behind w w' B x b mb s st tl g (cliK s st g) v := by
  cases h2 : has g.fl 2
  · cases h4 : has g.fl 4
    · cases h16 : has g.fl 16
      · have hk : cliK s st g = 0 := by unfold cliK; rw [h2, h4, h16]; rfl
        rw [hk]
        exact (client_noack h g og Ao Ad no co cd h2 h4 h16).mono fun e w' ⟨he, k⟩ => ⟨_, he, Behind.same h g 0 (.inl rfl) (.inl ⟨rfl, rfl⟩) k⟩
      · by_cases ha : g.ak = (s.iss + 1) % 4294967296
        · cases hc : acceptI g.sq (lenI g) st.next (st.room - st.taken)
          · have hk : cliK s st g = 1 := by unfold cliK; rw [h2, h4, h16, hc]; simp
            rw [hk]
            exact (client_far h g og Ao Ad no co cd h2 h4 h16 ha hc).mono fun e w' ⟨v, he, ht, k⟩ => ⟨_, he, Behind.same h g 1 (.inr rfl) ht k⟩
          · have hk : cliK s st g = 3 := by unfold cliK; rw [h2, h4, h16, hc]; simp [ha]
            rw [hk]
            exact (client_take h g og Ao Ad no co cd h2 h4 h16 ha hc hd hn).mono fun e w' ⟨v, s', mb', he, hcl, hs, ht, k, hf⟩ => ⟨v, he, s', mb', hcl, hs, ht, k, hf⟩
        · have hk : cliK s st g = 1 := by unfold cliK; rw [h2, h4, h16]; simp [ha]
          rw [hk]
          exact (client_other h g og Ao Ad no co cd h2 h4 h16 ha).mono fun e w' ⟨v, he, ht, k⟩ => ⟨_, he, Behind.same h g 1 (.inr rfl) ht k⟩
    · by_cases hq : g.sq = st.next
      · have hk : cliK s st g = 2 := by unfold cliK; rw [h2, h4]; simp [hq]
        rw [hk]
        refine (client_reset h g og Ao Ad no co cd h2 h4 hq).mono fun e w' ⟨he, hx, k⟩ => ⟨_, he, { s with st := 3 }, mb, ?_, rfl, .inl ⟨rfl, rfl⟩, k.mono (by simp [footC]), fun j hj => .inl hj⟩
        have h1 := h.xb
        have h2 := h.xm
        refine ⟨hx, ES.Same.ok (s := { s with st := 3 }) ⟨rfl, rfl, rfl, rfl, rfl, rfl, rfl, rfl, rfl, rfl⟩ ⟨h.ok.loc, h.ok.rem, h.ok.iss, h.ok.sscl, h.ok.sscl', h.ok.scl, h.ok.irs⟩, by simp, h.inp, h.out, h.wri, h.bf.keep k (by simp; omega) (by simp; omega), h.okb, own_keepsS h.own k (fun j hj => by have := h.sep j hj; simp; omega), h.sep, h.xb, h.xm, h.zx, h.zb, h.zm, h.len⟩
      · have hq' : (g.sq == st.next) = false := by simpa using hq
        cases hw : withinI g.sq st.next (st.room - st.taken)
        · have hk : cliK s st g = 0 := by unfold cliK; rw [h2, h4, hw]; simp [hq]
          rw [hk]
          refine (client_rst h g og Ao Ad no co cd h2 h4 hq').mono fun e w' ⟨v, he, ht, k⟩ => ⟨_, he, Behind.same h g 0 (.inl rfl) ?_ k⟩
          rw [hw] at ht
          exact ht
        · have hk : cliK s st g = 1 := by unfold cliK; rw [h2, h4, hw]; simp [hq]
          rw [hk]
          refine (client_rst h g og Ao Ad no co cd h2 h4 hq').mono fun e w' ⟨v, he, ht, k⟩ => ⟨_, he, Behind.same h g 1 (.inr rfl) ?_ k⟩
          rw [hw] at ht
          exact ht
  · have hk : cliK s st g = 1 := by unfold cliK; rw [h2]; rfl
    rw [hk]
    exact (client_syn h g og Ao Ad no co cd h2).mono fun e w' ⟨v, he, ht, k⟩ => ⟨_, he, Behind.same h g 1 (.inr rfl) ht k⟩

theorem Behind.ahead {w W w' : World} {B x b mb : Nat} {s : ES} {st : BS} {tl : List UInt8} {g : Seg} {k : Nat} {v : Value} (h : Behind W w' B x b mb s st tl g k v) (hk : Keeps [] w W) : Behind w w' B x b mb s st tl g k v := by
  obtain ⟨s', mb', h1, h2, h3, h4, h5⟩ := h
  exact ⟨s', mb', h1, h2, h3.mono (Keeps.refl _ _) hk.size, (hk.mono (by simp)).trans h4, fun j hj => (h5 j hj).imp id (fun h => Nat.le_trans hk.size h)⟩

set_option maxRecDepth 100000 in
set_option maxHeartbeats 2000000 in
theorem etake_cli {w : World} {B x b mb : Nat} {s : ES} {st : BS} {tl : List UInt8} (h : Cli w B x b mb s st tl) (hst : s.st = 2) (g : Seg) (og : g.Ok) (Ao Ad : Option Addr) (no co cd : Nat) (hd : BytesV w (.slice Ad g.data.length cd) g.data) (hn : g.data.length ≤ 1048576) (now : Int) :
    Calls Tryz.prog 12 #[.pointer (some ⟨x, 0, none⟩), segV g (.slice Ao no co) (.slice Ad g.data.length cd), .int .u64 now] w fun e w' => ∃ v, e = .returned (.tuple #[v, .int .i64 0]) ∧ Behind w w' B x b mb s st tl g (cliK s st g) v := by
  have hlt := h.e.lt
  have HC := Lib.hid (fun (W : World) (k : Keeps [] w W) => client_any (h.keep0 k) g og Ao Ad no co cd (hd.keep0 k) hn)
  have HE := Lib.hid (fun (W : World) (k : Keeps [] w W) => h.e.keep0 k)
  have hi := h.inp
  clear h hd
  unfold segV at HC ⊢
  go_enter Tryz.func12, Tryz.ntmps12
  go_wp2_with fail
  refine (enone_no (HE.out _ (Keeps.alloc _ _ _)) (by omega)).mono ?_
  rintro e w1 ⟨rfl, rfl⟩
  go_wp2_with fail
  refine (eover_no (HE.out _ (Keeps.alloc _ _ _)) (by omega) (by omega)).mono ?_
  rintro e w1 ⟨rfl, rfl⟩
  go_upto_region 5 with fail
  refine wp_gn (fun W1 hW1 => ?_)
  have k1 : Keeps [] w W1 := by rw [hW1]; exact Keeps.alloc _ _ _
  have hx : W1.heap[w.heap.size]? = some (.cells #[.int .u16 g.sp, .int .u16 g.dp, .int .u32 g.sq, .int .u32 g.ak, .int .u8 g.fl, .int .u16 g.wn, .int .u16 g.ug, .slice Ao no co, .slice Ad g.data.length cd] 39 (0, 0)) := by rw [hW1]; exact (MapKept.heap_alloc w _).1
  have c16 := (HE.out W1 k1).c16
  rw [hi] at c16
  have hxc0 := cell_of_block hx 0
  have hxc1 := cell_of_block hx 1
  have hxc2 := cell_of_block hx 2
  have hxc3 := cell_of_block hx 3
  have hxc4 := cell_of_block hx 4
  have hxc5 := cell_of_block hx 5
  have hxc6 := cell_of_block hx 6
  have hxc7 := cell_of_block hx 7
  have hxc8 := cell_of_block hx 8
  simp at hxc0 hxc1 hxc2 hxc3 hxc4 hxc5 hxc6 hxc7 hxc8
  have hxf0 := free_of_block hx 0
  have hxf1 := free_of_block hx 1
  have hxf2 := free_of_block hx 2
  have hxf3 := free_of_block hx 3
  have hxf4 := free_of_block hx 4
  have hxf5 := free_of_block hx 5
  have hxf6 := free_of_block hx 6
  have hxf7 := free_of_block hx 7
  have hxf8 := free_of_block hx 8
  have K1 := Lib.hid k1
  clear hx k1 hW1
  go_wp2_with fail
  refine (HC.out W1 K1.out).mono ?_
  rintro e w2 ⟨v, rfl, hb⟩
  have HB := Lib.hid (hb.ahead K1.out)
  clear hb
  go_wp2_with fail
  go_ret2
  exact ⟨_, rfl, HB.out⟩
set_option maxRecDepth 100000 in
set_option maxHeartbeats 2000000 in
theorem etake_3 {w : World} {x : Nat} {s : ES} (h : EndAt w x s) (hst : s.st = 3) (g : Seg) (ov dv : Value) (now : Int) :
    Calls Tryz.prog 12 #[.pointer (some ⟨x, 0, none⟩), segV g ov dv, .int .u64 now] w fun e w' => e = .returned (.tuple #[.slice none 0 0, .int .i64 0]) ∧ Keeps [] w w' := by
  have H := Lib.hid h
  clear h
  unfold segV
  go_enter Tryz.func12, Tryz.ntmps12
  go_wp2_with fail
  refine (enone_no (H.out.keep0 (Keeps.alloc _ _ _)) (by omega)).mono ?_
  rintro e w1 ⟨rfl, rfl⟩
  go_wp2_with fail
  refine (eover_3 (H.out.keep0 (Keeps.alloc _ _ _)) hst).mono ?_
  rintro e w1 ⟨rfl, rfl⟩
  go_wp2_with fail
  go_ret2
  exact ⟨rfl, Keeps.alloc _ _ _⟩
end Go.Proofs.YtakgohocimlagaaGreat
