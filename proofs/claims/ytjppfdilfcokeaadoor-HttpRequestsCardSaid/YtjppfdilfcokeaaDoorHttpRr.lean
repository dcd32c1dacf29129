/-
  The document's own folded text (culvertref22.folded); bytes appended to a row of up to 2^47. Condition: the text is no longer than 2^47.
-/
import Derived.Test.YtjppfdilfcokeaaDoorHttpRw
import Derived.Maps.AppendAt
namespace Go.Proofs.YtjppfdilfcokeaaDoor
open Go.RowKit Go.Lib
set_option linter.unusedVariables false
set_option linter.unusedSimpArgs false

theorem run_append_byte {P : Program} (w : World) (base t ty e : Nat) (ht : P.underlying t = some (.slice e)) (hi : (P.info? e).map (fun i => (i.zero, i.size, i.bytes)) = some (some (.int .u8 0), 1, 1))
    (v : Value) (n : Nat) (xs : List UInt8) (hown : w.ownsRow base e 1 v n (xs.map u8V)) (a : Addr) (c : Nat) (x : UInt8) (hx : w.cell? a = some (u8V x)) (hn : n + 1 ≤ 140737488355328) (hbase : base ≤ w.heap.size) :
    ∃ v' w', (Builtin.append_ #[t, t] ty #[v, .slice (some a) 1 c]).run P w = .ok v' w' ∧ w'.ownsRow base e 1 v' (n + 1) ((xs ++ [x]).map u8V) ∧ w.grownBy w' v.ownBlock := by
  obtain ⟨i0, hi0, hz0, hz1, hz2⟩ := info_parts hi
  have hcells : ∀ j u, ([x].map u8V)[j]? = some u → w.cell? (a.add j) = some u := by
    intro j u hu
    match j, hu with
    | 0, hu =>
      simp only [List.map_cons, List.getElem?_cons_zero, Option.some.injEq] at hu
      rw [← hu]
      have : a.add 0 = a := by unfold Addr.add; simp
      rw [this]; exact hx
    | j + 1, hu => simp at hu
  obtain ⟨v', w', hrun, h2', h3', h4', h5'⟩ := run_append_own_at (P := P) w base t ty e i0 (.int .u8 0) 1 1 ht hi0 hz0 hz1 hz2 rfl (by omega) v n (xs.map u8V) hown a 1 c ([x].map u8V) (by simp) hcells (u8_one [x]) (by simp only [maxLen]; omega) (by omega) hbase
  exact ⟨v', w', hrun, by simpa using h2', h3'⟩
theorem wpList_append_byte {P : Program} {w : World} {ops : Array Oper} {rest : List Oper} {o : Oper} {a : Act} {Q : Exit → Act → World → Prop} (hg : o.guard = none) (s x : Operand) (base t e : Nat)
    (ho : o.op = .call { callee := .builtin .append, args := #[s, x], argTypes := #[t, t] })
    (ht : P.underlying t = some (.slice e)) (hi : (P.info? e).map (fun i => (i.zero, i.size, i.bytes)) = some (some (.int .u8 0), 1, 1))
    (v : Value) (n : Nat) (xs : List UInt8) (hs : a.eval s = v) (hown : w.ownsRow base e 1 v n (xs.map u8V)) (A : Addr) (c : Nat) (y : UInt8) (hx : a.eval x = .slice (some A) 1 c) (hy : w.cell? A = some (u8V y)) (hn : n + 1 ≤ 140737488355328) (hbase : base ≤ w.heap.size)
    (h : ∀ v' w', w'.ownsRow base e 1 v' (n + 1) ((xs ++ [y]).map u8V) → w.grownBy w' v.ownBlock → wpList P ops Q rest (a.put o.dst v') w') : wpList P ops Q (o :: rest) a w := by
  refine wpList_plain hg fun K' hK' => ?_
  obtain ⟨v', w', hrun, h2, h3⟩ := run_append_byte (P := P) w base t o.type e ht hi v n xs hown A c y hy hn hbase
  unfold Oper.wp execOp
  simp only [ho, resolve, invoke, builtin, Sem.run_bind, Sem.run_pure, Result.andThen_ok, List.map_toArray, List.map_cons, List.map_nil, hs, hx, hrun]
  exact hK' _ _ (h v' w' h2 h3)
theorem lower_cap {x : UInt8} (h : capB x = true) : ((lowerB x).toNat : Int) = (x.toNat : Int) + 32 := by
  refine lowerB_int x ?_
  unfold capB at h
  unfold isUpperB
  simp at h ⊢
  simp [UInt8.le_iff_toNat_le]
  omega
theorem lower_not {x : UInt8} (h : capB x = false) : lowerB x = x := by
  refine lowerB_of_not x ?_
  unfold capB at h
  unfold isUpperB
  simp at h ⊢
  simp [UInt8.le_iff_toNat_le, UInt8.lt_iff_toNat_lt]
  omega
set_option maxRecDepth 1000000 in
set_option maxHeartbeats 8000000 in
theorem rfolded_any (w : World) (s : List UInt8) (hs : s.length ≤ 140737488355328) : Calls Tryd.prog 32 #[.string (bs s)] w fun e w' => e = .returned (.string (bs (s.map lowerB))) ∧ Keeps [] w w' := by
  obtain ⟨res, hres⟩ : ∃ res, s.map lowerB = res := ⟨_, rfl⟩
  rw [hres]
  have HRES := Lib.hid hres
  have hsz : (bs s).size = s.length := rfl
  clear hres
  go_enter Tryd.func32, Tryd.ntmps32
  go_wp2_with fail
  go_loopg [3, 4] s.length (fun g ov iv wx => ∃ pre post : List UInt8, s = pre ++ post ∧ g = post.length ∧ iv = .int .i64 pre.length ∧ wx.ownsRow w.heap.size 5 1 ov pre.length ((pre.map lowerB).map u8V) ∧ Keeps [] w wx)
  case atStart => exact ⟨[], s, rfl, rfl, rfl, World.ownsRow_nil _ _ _ _, Keeps.refl _ _⟩
  case round =>
    obtain ⟨pre, post, hsp, hg, rfl, hown, hk⟩ := hrel
    subst hg
    have hll : s.length = pre.length + post.length := by rw [hsp]; simp
    have HK := Lib.hid hk
    have HO := Lib.hid hown
    cases post with
    | nil =>
      have hlt : ¬ (pre.length : Int) < (s.length : Int) := by simp at hll; omega
      have hpre : pre = s := by rw [hsp]; simp
      subst hpre
      have hb := BytesV.of_own hown
      rw [HRES.out] at hb
      obtain ⟨A, c, rfl, hb2⟩ := hb
      have hcv := BytesV.str0 (P := Tryd.prog) (show BytesV wr (.slice A res.length c) res from ⟨A, c, rfl, hb2⟩) 22 9 5 Tryd.underlying22 Tryd.underlying5 Tryd.underlying9
      clear hk hown hsp hll hb2 HO HRES
      go_wp2_with fail
      go_ret
      exact ⟨rfl, HK.out⟩
    | cons x post =>
      have hlt : (pre.length : Int) < (s.length : Int) := by simp at hll; omega
      have hpl : pre.length + 1 ≤ 140737488355328 := by simp at hll; omega
      have hget : ∀ h, (bs s)[pre.length]'h = x := by rw [hsp]; exact fun h => bs_mid pre post x h
      have hlt3 : pre.length < (bs s).size := by rw [bs_size]; omega
      have hg2 := hget hlt3
      have HSP := Lib.hid hsp
      have HPL := Lib.hid hpl
      have CC := Lib.hid (rcapital_any wr x)
      clear hll hsp hget hk hown hs
      have HLST := Lib.hid (show (pre ++ [x]).map lowerB = pre.map lowerB ++ [lowerB x] by rw [List.map_append]; rfl)
      cases hc : capB x with
      | true =>
        rw [hc] at CC
        have hlo := lower_cap hc
        have hx1 : (65 : Int) ≤ (x.toNat : Int) := by unfold capB at hc; simp at hc; omega
        have hx2 : (x.toNat : Int) ≤ 90 := by unfold capB at hc; simp at hc; omega
        have HU := Lib.hid (show u8V (lowerB x) = .int .u8 ((x.toNat : Int) + 32) by unfold u8V; rw [hlo])
        clear hc hlo
        go_wp2_with (first | (go_at_call 67; refine CC.out.mono ?_; rintro e w1 ⟨rfl, hw1⟩; obtain rfl := hw1.symm; clear hw1) | (at_builtin; refine wpList_append_byte rfl (.tmp 19) (.tmp 21) w.heap.size 22 5 rfl Tryd.underlying22 Tryd.infoU8 _ pre.length (pre.map lowerB) rfl (World.ownsRow.alloc HO.out _) _ 1 (lowerB x) rfl ((cell_of_block (MapKept.heap_alloc wr _).1 0).trans (by rw [HU.out]; rfl)) HPL.out (by rw [World.size_alloc]; have := HK.out.size; omega) ?_; intro v' w' hown' hgrow'; have HEND := Lib.hid (And.intro hown' (grow_keeps ((HK.out).alloc' _) (World.ownsRow.alloc HO.out _) (Nat.le_refl _) hgrow')); clear hown' hgrow'))
        go_roundg post.length
        case measure => simp
        case rel => exact ⟨pre ++ [x], post, by rw [HSP.out]; simp, rfl, by simp, by rw [HLST.out]; simpa using HEND.out.1, HEND.out.2⟩
      | false =>
        rw [hc] at CC
        have HU := Lib.hid (show u8V (lowerB x) = .int .u8 (x.toNat : Int) by unfold u8V; rw [lower_not hc])
        clear hc
        go_wp2_with (first | (go_at_call 67; refine CC.out.mono ?_; rintro e w1 ⟨rfl, hw1⟩; obtain rfl := hw1.symm; clear hw1) | (at_builtin; refine wpList_append_byte rfl (.tmp 19) (.tmp 21) w.heap.size 22 5 rfl Tryd.underlying22 Tryd.infoU8 _ pre.length (pre.map lowerB) rfl (World.ownsRow.alloc HO.out _) _ 1 (lowerB x) rfl ((cell_of_block (MapKept.heap_alloc wr _).1 0).trans (by rw [HU.out]; rfl)) HPL.out (by rw [World.size_alloc]; have := HK.out.size; omega) ?_; intro v' w' hown' hgrow'; have HEND := Lib.hid (And.intro hown' (grow_keeps ((HK.out).alloc' _) (World.ownsRow.alloc HO.out _) (Nat.le_refl _) hgrow')); clear hown' hgrow'))
        go_roundg post.length
        case measure => simp
        case rel => exact ⟨pre ++ [x], post, by rw [HSP.out]; simp, rfl, by simp, by rw [HLST.out]; simpa using HEND.out.1, HEND.out.2⟩
end Go.Proofs.YtjppfdilfcokeaaDoor
