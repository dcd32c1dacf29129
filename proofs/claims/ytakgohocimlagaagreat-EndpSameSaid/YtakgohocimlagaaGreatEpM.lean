/-
  A row of segments that comes in, opened, with what the row says of their sizes. No condition.
-/
import Derived.Test.YtakgohocimlagaaGreatSegO
import GoSem.ClaimJoined
namespace Go.Proofs.YtakgohocimlagaaGreat
open Go.RowKit Go.ChangeShapes Go.WideShapes Go.ChangeAt Go.Joins Go.Lib
set_option linter.unusedVariables false
set_option linter.unusedSimpArgs false

theorem weightsAll_mem {H : Type} {P : Program} {e : TypeId} : ∀ (l : List (DataW H)) (d : DataW H), d ∈ l → ∀ n ∈ d.weights P e, n ∈ DataW.weightsAll P e l
  | x :: r, d, hd, n, hn => by
    rw [DataW.weightsAll, List.mem_append]
    rcases List.mem_cons.1 hd with rfl | h
    · exact .inl hn
    · exact .inr (weightsAll_mem r d h n hn)
theorem weights_three {H : Type} {P : Program} {t0 t1 t2 : TypeId} {d0 d1 d2 : DataW H} (h : (DataW.weightsEach P [t0, t1, t2] [d0, d1, d2]).all (· ≤ reachBytes) = true) : ∀ n ∈ d2.weights P t2, n ≤ reachBytes := fun n hn => by
  have := List.all_eq_true.1 h n (by simp only [DataW.weightsEach, List.mem_append]; exact .inr (.inr (.inl hn)))
  simpa using this
theorem Tryz.b8 : Tryz.prog.bytesOf 5 = 1 := by kernel_rfl
theorem bytes_w {H : Type} {enc : TypeId × Value → H} {W : World} {A : Option Addr} {n k : Nat} {fuel : Nat} {x : DataW H × List MemPlace} (hf : DataW.trod enc Tryz.prog W 0 (fun _ => true) true fuel 37 [.slice A n k] = some x) (hw : ∀ m ∈ x.1.weights Tryz.prog 37, m ≤ reachBytes) : n ≤ reachBytes := by
  rcases DataW.trod_slice Tryz.underlying37 hf with ⟨hcs, _⟩ | ⟨a, len, cap, elems, rest, _, _, hcs, hx, _, hl, _, hlen, _, _, _⟩
  · simp at hcs; omega
  · simp at hcs
    obtain ⟨_, rfl, _⟩ := hcs
    have := hw ((elems.length + rest.length) * 1) (by rw [hx, DataW.weights, Tryz.underlying37]; simp [Tryz.b8])
    omega
set_option maxRecDepth 100000 in
set_option maxHeartbeats 4000000 in
theorem seg_w {H : Type} {enc : TypeId × Value → H} {W : World} {c0 c1 c2 c3 c4 c5 c6 c7 : Value} {A : Option Addr} {n k : Nat} {fuel : Nat} {x : DataW H × List MemPlace} (hf : DataW.trod enc Tryz.prog W 0 (fun _ => true) true fuel 39 [c0, c1, c2, c3, c4, c5, c6, c7, .slice A n k] = some x) (hw : ∀ m ∈ x.1.weights Tryz.prog 39, m ≤ reachBytes) : n ≤ reachBytes := by
  obtain ⟨xs, m, _, hx, _, hlen, hg⟩ := DataW.trod_struct Tryz.underlying39 hf
  match xs, hlen with
  | [z0, z1, z2, z3, z4, z5, z6, z7, z8], _ =>
    have g8 := hg 8 _ rfl
    simp [Tryz.sc1] at g8
    refine bytes_w g8 (fun j hj => hw j ?_)
    rw [hx, DataW.weights, Tryz.underlying39]
    simp only [List.map, DataW.weightsEach, List.mem_append]
    exact .inr (.inr (.inr (.inr (.inr (.inr (.inr (.inr (.inl hj))))))))
/-- The law's segments, as they lie in memory: g the one at place i. -/
def SegIn (W : World) (blk off i : Nat) (g : Seg) (A1 : Option Addr) (n1 k1 : Nat) (A2 : Option Addr) (k2 : Nat) : Prop :=
  (0 ≤ g.sp ∧ g.sp ≤ 65535 ∧ 0 ≤ g.dp ∧ g.dp ≤ 65535 ∧ 0 ≤ g.sq ∧ g.sq ≤ 4294967295 ∧ 0 ≤ g.ak ∧ g.ak ≤ 4294967295 ∧ 0 ≤ g.fl ∧ g.fl ≤ 255 ∧ 0 ≤ g.wn ∧ g.wn ≤ 65535 ∧ 0 ≤ g.ug ∧ g.ug ≤ 65535) ∧ g.data.length ≤ 140737488355328 ∧
  W.cell? ⟨blk, off + i * 9, none⟩ = some (.int .u16 g.sp) ∧ W.cell? ⟨blk, off + i * 9 + 1, none⟩ = some (.int .u16 g.dp) ∧ W.cell? ⟨blk, off + i * 9 + 2, none⟩ = some (.int .u32 g.sq) ∧ W.cell? ⟨blk, off + i * 9 + 3, none⟩ = some (.int .u32 g.ak) ∧ W.cell? ⟨blk, off + i * 9 + 4, none⟩ = some (.int .u8 g.fl) ∧ W.cell? ⟨blk, off + i * 9 + 5, none⟩ = some (.int .u16 g.wn) ∧ W.cell? ⟨blk, off + i * 9 + 6, none⟩ = some (.int .u16 g.ug) ∧ W.cell? ⟨blk, off + i * 9 + 7, none⟩ = some (.slice A1 n1 k1) ∧ W.cell? ⟨blk, off + i * 9 + 8, none⟩ = some (.slice A2 g.data.length k2) ∧ OptsV W (.slice A1 n1 k1) g.ops ∧ BytesV W (.slice A2 g.data.length k2) g.data
def SegsE (W : World) (a0 : Option Addr) (len : Nat) : Prop :=
  len = 0 ∨ ∃ blk off, a0 = some ⟨blk, off, none⟩ ∧ ∀ i, i < len → ∃ g A1 n1 k1 A2 k2, SegIn W blk off i g A1 n1 k1 A2 k2
theorem SegIn.keep {W w : World} {blk off i : Nat} {g : Seg} {A1 : Option Addr} {n1 k1 : Nat} {A2 : Option Addr} {k2 : Nat} (h : SegIn W blk off i g A1 n1 k1 A2 k2) (k : Keeps [] W w) : SegIn w blk off i g A1 n1 k1 A2 k2 := by
  obtain ⟨h0, h1, q0, q1, q2, q3, q4, q5, q6, q7, q8, h2, h3⟩ := h
  exact ⟨h0, h1, cell_keeps k q0 (by simp), cell_keeps k q1 (by simp), cell_keeps k q2 (by simp), cell_keeps k q3 (by simp), cell_keeps k q4 (by simp), cell_keeps k q5 (by simp), cell_keeps k q6 (by simp), cell_keeps k q7 (by simp), cell_keeps k q8 (by simp), h2.keep0 k, h3.keep0 k⟩
set_option maxRecDepth 100000 in
set_option maxHeartbeats 4000000 in
theorem open_segs {H : Type} {enc : TypeId × Value → H} {W : World} {v : Value} {d : DataW H} {p : List MemPlace} {b0 : Nat} (o : Value.okWide Tryz.prog W .any b0 23 v) (h : DataW.Trod enc Tryz.prog W 0 (fun _ => true) true 23 v d p) (hwt : ∀ n ∈ d.weights Tryz.prog 23, n ≤ reachBytes) :
    ∃ a0 len cap, v = .slice a0 len cap ∧ len ≤ maxLen ∧ SegsE W a0 len := by
  obtain ⟨a0, len, cap, rfl⟩ := okWide_slice Tryz.underlying23 o
  refine ⟨a0, len, cap, rfl, ?_⟩
  obtain ⟨fuel, hf⟩ := h
  rcases DataW.trod_slice Tryz.underlying23 hf with ⟨hcs, _⟩ | ⟨a, len', cap', elems, rest, n, _, hcs, hdx, hb, hl, hm, hlen, hel, _, _⟩
  · simp [Value.cells] at hcs
    exact ⟨by omega, Or.inl hcs.2.1⟩
  · simp [Value.cells] at hcs
    obtain ⟨rfl, rfl, rfl⟩ := hcs
    refine ⟨by omega, ?_⟩
    rcases Nat.eq_zero_or_pos len with h0 | hp
    · exact Or.inl h0
    · right
      rw [Tryz.scs] at hel
      have hd : d = .slice (elems.map (·.1)) (rest.map (·.1)) := congrArg Prod.fst hdx
      have key : ∀ i, i < len → ∃ cs x, W.cells? 0 (a.add (i * 9)) 9 = some cs ∧ DataW.trod enc Tryz.prog W 0 (fun _ => true) true n 39 cs = some x ∧ ∀ m ∈ x.1.weights Tryz.prog 39, m ≤ reachBytes := by
        intro i hi
        have he := hel i hi
        rw [List.getElem?_eq_getElem (by omega)] at he
        obtain ⟨cs, hc, ht⟩ := Option.bind_eq_some_iff.1 he
        exact ⟨cs, _, hc, ht, fun m hm => hwt m (by
          rw [hd, DataW.weights, Tryz.underlying23]
          exact List.mem_cons_of_mem _ (List.mem_append_left _ (weightsAll_mem _ _ (List.mem_map.2 ⟨_, List.getElem_mem _, rfl⟩) m hm)))⟩
      have hsp : a.spot = none := by
        obtain ⟨cs, x, hc, ht, _⟩ := key 0 hp
        obtain ⟨_, hcl, hcc⟩ := World.cells?_some hc
        match cs, hcl with
        | [c0, c1, c2, c3, c4, c5, c6, c7, c8], _ =>
          have g := hcc 0 (by omega)
          exact spot_none (i := 0) (v := c0) (by simpa [Addr.add] using g) rfl
      obtain ⟨blk, off, sp⟩ := a
      simp only at hsp
      subst hsp
      have e3 : ∀ i j, ((⟨blk, off, none⟩ : Addr).add (i * 9)).add j = ⟨blk, off + i * 9 + j, none⟩ := by
        intro i j
        unfold Addr.add
        split <;> split <;> simp_all
      refine ⟨blk, off, rfl, fun i hi => ?_⟩
      obtain ⟨cs, x, hc, ht, hw⟩ := key i hi
      obtain ⟨_, hcl, hcc⟩ := World.cells?_some hc
      match cs, hcl with
      | [c0, c1, c2, c3, c4, c5, c6, c7, c8], _ =>
        obtain ⟨sp, dp, sq, ak, fl, wn, ug, A1, n1, k1, l1, A2, n2, k2, l2, he, hbd, h1, h2⟩ := seg_in ht
        simp only [List.cons.injEq, and_true] at he
        obtain ⟨rfl, rfl, rfl, rfl, rfl, rfl, rfl, rfl, rfl⟩ := he
        have hn := seg_w ht hw
        obtain ⟨rfl, _, _⟩ := h2.form
        have gg : ∀ j, j < 9 → W.cell? ⟨blk, off + i * 9 + j, none⟩ = [Value.int .u16 sp, .int .u16 dp, .int .u32 sq, .int .u32 ak, .int .u8 fl, .int .u16 wn, .int .u16 ug, .slice A1 n1 k1, .slice A2 l2.length k2][j]? := by
          intro j hj
          rw [← e3]
          exact hcc j hj
        simp only [reachBytes] at hn
        exact ⟨⟨sp, dp, sq, ak, fl, wn, ug, l1, l2⟩, A1, n1, k1, A2, k2, hbd, Nat.le_trans hn (by decide), gg 0 (by omega), gg 1 (by omega), gg 2 (by omega), gg 3 (by omega), gg 4 (by omega), gg 5 (by omega), gg 6 (by omega), gg 7 (by omega), gg 8 (by omega), h1, h2⟩
end Go.Proofs.YtakgohocimlagaaGreat
