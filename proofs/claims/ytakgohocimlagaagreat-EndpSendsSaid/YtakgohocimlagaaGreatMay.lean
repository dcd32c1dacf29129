/-
  The walk of tcp.May (and of opts.Put) at any segment. Condition: numbers are in the ranges of their kinds.
-/
import Derived.Test.YtakgohocimlagaaGreatSegs
import Derived.Test.YtakgohocimlagaaGreatEvU
namespace Go.Proofs.YtakgohocimlagaaGreat
open Go.RowKit
set_option linter.unusedVariables false
set_option linter.unusedSimpArgs false

/-! ### zeros behind a row of the call's own -/
theorem run_zeros_own {P : Program} (w : World) (base t tn ty e : Nat) {kn : IntKind} (ht : P.underlying t = some (.slice e)) (htn : P.underlying tn = some (.int kn)) (hi : (P.info? e).map (fun i => (i.zero, i.size, i.bytes)) = some (some (.int .u8 0), 1, 1))
    (v : Value) (n : Nat) (xs : List Value) (hown : w.ownsRow base e 1 v n xs) (k : Nat) (hk : k ≤ 1000) (hn : n ≤ 1000) (h0 : n = 0 → k = 0) :
    ∃ A c w', (Builtin.append_ #[t, tn] ty #[v, .int .i64 k]).run P w = .ok (.slice A (n + k) c) w' ∧ w.grownBy w' v.ownBlock := by
  obtain ⟨j, hj, hz0, hz1, hz2⟩ := info_parts hi
  haveI : Inhabited Ev.EnvT := Ev.noE
  have hz : ∀ w, (zeroValue e).run P w = .ok (.int .u8 0) w := fun w => Ev.r_zero hj hz0
  have hzs : (Value.int .u8 0).cells.size = j.size := by rw [hz1]; rfl
  have hnb : (k : Int) * (j.bytes : Int) ≤ 281474976710656 := by rw [hz2]; omega
  rcases hown.2 with ⟨rfl, rfl⟩ | ⟨g, cap, cur, rfl, hb, hg, hnc, hm, hs, htk⟩
  · obtain rfl := h0 rfl
    have := Ev.app_placeZ (P := P) (w := w) (ts := #[t, tn]) (ty := ty) (args := #[.slice none 0 0, .int .i64 ((0 : Nat) : Int)]) (k := 0) rfl rfl rfl rfl ht hj hz hzs htn rfl ⟨by omega, by omega⟩ hnb (by rfl) (Nat.le_refl _)
    exact ⟨none, 0, w, this, World.grownBy.refl w _⟩
  · by_cases hle : n + k ≤ cap
    · have hp := Ev.app_placeZ (P := P) (w := w) (ts := #[t, tn]) (ty := ty) (args := #[.slice (some ⟨g, 0, none⟩) n cap, .int .i64 (k : Int)]) (k := k) rfl rfl rfl rfl ht hj hz hzs htn rfl ⟨by omega, by omega⟩ hnb (by simp) hle
      obtain ⟨w', hr, hsm, hsz, hfr, _⟩ := Ev.stores_at (P := P) (o := n) (fz := (0, 0)) ((Array.range (k * j.size)).map (fun i => (Value.int .u8 0).cells[i % (Value.int .u8 0).cells.size]!)).toList 0 w cur hg (fun i _ => by simp) (by simp [hz1]; omega) (by
        intro u hu
        simp at hu
        obtain ⟨i, _, rfl⟩ := hu
        have : (Value.int .u8 0).cells.size = 1 := rfl
        simp [this, Nat.mod_one, Value.cells]
        rfl)
      have ha : (⟨g, 0, none⟩ : Addr).add (n * j.size) = ⟨g, n, none⟩ := by rw [hz1]; unfold Addr.add; split <;> simp_all
      refine ⟨some ⟨g, 0, none⟩, cap, w', ?_, ⟨hsm.1, hsm.2.1, hsm.2.2, by omega, fun i _ hne => hfr i (fun e => hne (by rw [e]; rfl))⟩⟩
      rw [hp]
      simp only [ha]
      rw [hr]
      rfl
    · have hold : (Builtin.firstCells j.size n (.slice (some ⟨g, 0, none⟩) n cap)).run P w.drew = .ok ⟨(cur.toList.take n)⟩ w.drew := by
        unfold Builtin.firstCells
        rw [hz1]
        have := Ev.loads_at (P := P) (w := w.drew) (B := g) (o := 0) (n := n) hg (by omega)
        simp at this ⊢
        rw [this]
      obtain ⟨c, hc, hp⟩ := Ev.app_newZ (P := P) (w := w) (ts := #[t, tn]) (ty := ty) (args := #[.slice (some ⟨g, 0, none⟩) n cap, .int .i64 (k : Int)]) (k := k) rfl rfl rfl rfl ht hj hz hzs htn rfl ⟨by omega, by omega⟩ hnb (by simp) hold hle (by
        simp only [Ev.roomB, Bool.and_eq_true]; rw [hz2]; exact ⟨Nat.ble_eq_true_of_le (by omega), Nat.ble_eq_true_of_le (by omega)⟩)
      exact ⟨_, c, _, hp, ⟨rfl, rfl, rfl, by show w.heap.size ≤ (w.drew.heap.push _).size; rw [Array.size_push]; exact Nat.le_succ _, fun i hi _ => by
        show (w.drew.heap.push _)[i]? = _
        rw [Array.getElem?_push_lt (show i < w.drew.heap.size from hi)]
        exact (Array.getElem?_eq_getElem hi).symm⟩⟩

/-! ### options as bytes: whether they may be, and how many -/
def badO (x : O) : Bool := decide ((x.1.toNat : Int) ≤ 1) || decide (38 < (x.2.length : Int))
def totO : List O → Nat
  | [] => 0
  | x :: r => 2 + x.2.length + totO r
theorem totO_take : ∀ {os : List O} {j : Nat} {x : O}, os[j]? = some x → totO (os.take (j + 1)) = totO (os.take j) + (2 + x.2.length)
  | y :: r, 0, x, h => by simp at h; subst h; simp [totO]
  | y :: r, j + 1, x, h => by
    have := totO_take (os := r) (j := j) (x := x) (by simpa using h)
    simp only [List.take_succ_cons, totO, this]; omega
  | [], j, x, h => by simp at h
theorem totO_le : ∀ (os : List O) (j : Nat), totO (os.take j) ≤ totO os
  | [], j => by simp
  | x :: r, 0 => by simp [totO]
  | x :: r, j + 1 => by have := totO_le r j; simp only [List.take_succ_cons, totO]; omega
def padN (n : Nat) : Nat := (4 - n % 4) % 4
theorem pad_all : ∀ n : Fin 41, bits .and .i64 (-((n.val : Nat) : Int)) 3 = ((padN n.val : Nat) : Int) := by decide
theorem pad_eq {n : Nat} (h : n ≤ 40) : bits .and .i64 (-(n : Int)) 3 = ((padN n : Nat) : Int) := pad_all ⟨n, by omega⟩
def putOk (os : List O) : Bool := !os.any badO && decide (totO os ≤ 40)
def mayB (os : List O) (d : Nat) : Bool := putOk os && decide (IntKind.i64.wrap (20 + ((totO os + padN (totO os) : Nat) : Int) + d) ≤ 1480)

set_option maxRecDepth 100000 in
set_option maxHeartbeats 400000 in
theorem oput1_any (w : World) (x : O) (B : Option Addr) (m : Nat) :
    Calls Tryz.prog 62 #[.agg #[.int .u8 x.1.toNat, .slice B x.2.length m]] w fun e w' => e = .returned (.bool (badO x)) ∧ Keeps [] w w' := by
  cases h : decide ((x.1.toNat : Int) ≤ 1)
  · have F : badO x = decide (38 < (x.2.length : Int)) := by unfold badO; rw [h]; rfl
    have HF := Lib.hid F
    clear F
    go_enter Tryz.func62, Tryz.ntmps62
    go_wp2_with fail
    go_ret
    exact ⟨ret_b HF.out.symm, (Keeps.refl _ _).alloc' _⟩
  · have F : badO x = true := by unfold badO; rw [h]; rfl
    have HF := Lib.hid F
    clear F
    go_enter Tryz.func62, Tryz.ntmps62
    go_wp2_with fail
    go_ret
    exact ⟨ret_b HF.out.symm, (Keeps.refl _ _).alloc' _⟩

def badIx (os : List O) : Option Nat := os.findIdx? badO
set_option maxRecDepth 100000 in
set_option maxHeartbeats 1000000 in
theorem indexBad_any (w : World) (A : Option Addr) (n c : Nat) (os : List O) (h : OptsV w (.slice A n c) os) :
    Calls Tryz.prog 88 #[.slice A n c, .func (Fn.func 62) #[] #[]] w fun e w' => e = .returned (.int .i64 (ixI (badIx os))) ∧ Keeps [] w w' := by
  obtain ⟨A', c', he, hc1, hc2, hat⟩ := h
  injection he with e1 e2 e3
  subst e1 e2 e3
  have HAT := Lib.hid hat
  unfold maxLen at hc2
  clear hat
  go_enter Tryz.func88, Tryz.ntmps88
  go_wp2_with fail
  go_loopw [8, 5] (fun i _ wr => ∃ j : Nat, j ≤ os.length ∧ i = .int .i64 j ∧ Keeps [] w wr ∧ Hid (∀ t, t < j → ∀ x, os[t]? = some x → badO x = false)) (fun i _ _ => os.length - (intOf i).toNat)
  case atStart => exact ⟨0, Nat.zero_le _, rfl, Keeps.refl _ _, Lib.hid (fun t ht => by omega)⟩
  case round =>
    obtain ⟨j, hj, rfl, kw, HB⟩ := hrel
    have KW := Lib.hid kw
    clear kw
    by_cases hlt : j < os.length
    · obtain ⟨g, o, rfl, hall⟩ := HAT.out (by omega)
      obtain ⟨B, m, r1, r2, _⟩ := hall j os[j] (List.getElem?_eq_getElem hlt)
      have r1' := cell_keeps KW.out r1 (by simp)
      have r2' := cell_keeps KW.out r2 (by simp)
      have HX := Lib.hid (List.getElem?_eq_getElem hlt)
      unfold u8V at r1'
      clear hall r1 r2
      generalize os[j] = x at *
      have CF := Lib.hid (oput1_any wr x B m)
      cases hm : badO x
      all_goals
        have CF2 := CF.out
        rw [hm] at CF2
        have HM := Lib.hid hm
        have CG := Lib.hid CF2
        clear CF2 CF hm
        go_wp2_with fail
        refine CG.out.mono ?_
        rintro e w2 ⟨rfl, k2⟩
        have K2 := Lib.hid k2
        clear k2 CG
        go_wp2_with fail
      · go_roundw
        case rel =>
          refine ⟨j + 1, by omega, by go_num, KW.out.trans K2.out, Lib.hid (fun t ht y hy => ?_)⟩
          by_cases htj : t = j
          · subst htj
            rw [HX.out] at hy
            cases hy
            exact HM.out
          · exact HB.out t (by omega) y hy
        case measure => simp [intOf]; omega
      · go_ret
        refine ⟨ret_i ?_, KW.out.trans K2.out⟩
        have : badIx os = some j := by
          unfold badIx
          rw [List.findIdx?_eq_some_iff_getElem]
          have hx := HX.out
          rw [List.getElem?_eq_getElem hlt] at hx
          refine ⟨hlt, by rw [Option.some.inj hx]; exact HM.out, fun t ht => ?_⟩
          rw [HB.out t ht os[t] (List.getElem?_eq_getElem (by omega))]
          simp
        rw [this]; rfl
    · go_wp2_with fail
      go_ret
      refine ⟨ret_i ?_, KW.out⟩
      have : badIx os = none := by
        unfold badIx
        rw [List.findIdx?_eq_none_iff]
        intro x hx
        obtain ⟨t, ht, rfl⟩ := List.mem_iff_getElem.1 hx
        exact HB.out t (by omega) _ (List.getElem?_eq_getElem ht)
      rw [this]; rfl
theorem badIx_any (os : List O) : decide (0 ≤ ixI (badIx os)) = os.any badO := by
  unfold badIx
  cases h : os.findIdx? badO with
  | none =>
    rw [List.findIdx?_eq_none_iff] at h
    have : os.any badO = false := by rw [List.any_eq_false]; intro x hx; simp [h x hx]
    rw [this]; simp [ixI]
  | some i =>
    rw [List.findIdx?_eq_some_iff_getElem] at h
    obtain ⟨hl, hb, _⟩ := h
    have : os.any badO = true := by rw [List.any_eq_true]; exact ⟨_, List.getElem_mem hl, hb⟩
    rw [this]; simp [ixI]
set_option maxHeartbeats 400000 in
theorem containsBad_any (w : World) (A : Option Addr) (n c : Nat) (os : List O) (h : OptsV w (.slice A n c) os) :
    Calls Tryz.prog 61 #[.slice A n c, .func (Fn.func 62) #[] #[]] w fun e w' => e = .returned (.bool (os.any badO)) ∧ Keeps [] w w' := by
  have HI := Lib.hid (indexBad_any w A n c os h)
  have HB := Lib.hid (badIx_any os)
  clear h
  go_enter Tryz.func61, Tryz.ntmps61
  go_wp2_with fail
  refine HI.out.mono ?_
  rintro e w1 ⟨rfl, k1⟩
  have K1 := Lib.hid k1
  clear k1
  go_wp2_with fail
  go_ret
  exact ⟨ret_b HB.out, K1.out⟩

-- PUT BEGIN
theorem wrapEqM (x : Int) : IntKind.i64.wrap x = wrap64 x := IntWalk.i64_left x
theorem step_append_bytesM {P : Program} {w : World} {ops : Array Oper} {o : Oper} {a : Act} {K : Act → World → Prop} {Q : Exit → Act → World → Prop} {E : Prop} (hgd : o.guard = none) (s x : Operand) (base t e : Nat)
    (ho : o.op = .call { callee := .builtin .append, args := #[s, x], argTypes := #[t, t] })
    (ht : P.underlying t = some (.slice e)) (hi : (P.info? e).map (fun i => (i.zero, i.size, i.bytes)) = some (some (.int .u8 0), 1, 1))
    (v : Value) (n : Nat) (xs : List UInt8) (hs : a.eval s = v) (hown : w.ownsRow base e 1 v n (xs.map u8V)) (y : Value) (l : List UInt8) (hx : a.eval x = y) (hy : BytesV w y l) (hn : n + l.length ≤ 1099511627776) (hbase : base ≤ w.heap.size)
    (h : ∀ v' w', w'.ownsRow base e 1 v' (n + l.length) ((xs ++ l).map u8V) → w.grownBy w' v.ownBlock → (v'.ownBlock = v.ownBlock ∨ v'.ownBlock = some w.heap.size) → K (a.put o.dst v') w') :
    if Region.wanted o (yielded ops a.tmps) = true then Oper.wp P o a w K Q else E := by
  have hw : Region.wanted o (yielded ops a.tmps) = true := by simp [Region.wanted, hgd]
  rw [if_pos hw]
  obtain ⟨v', w', hrun, h2, h3, h4, h5⟩ := run_append_bytes (P := P) w base t o.type e ht hi v n xs hown y l hy hn hbase
  unfold Oper.wp execOp
  simp only [ho, resolve, invoke, builtin, Sem.run_bind, Sem.run_pure, Result.andThen_ok, List.map_toArray, List.map_cons, List.map_nil, hs, hx, hrun]
  exact h v' w' h2 h3 h4
theorem cell_grownM {w w' : World} {row : Option Nat} (g : w.grownBy w' row) {a : Addr} {v : Value} (h : w.cell? a = some v) (hne : row ≠ some a.block) : w'.cell? a = some v :=
  (World.cell?_of_block (w := w) (g.block _ (lt_of_cell h) (fun e => hne e.symm))).trans h
theorem own_lt {w : World} {B e sz n : Nat} {v : Value} {xs : List Value} (h : w.ownsRow B e sz v n xs) (i : Nat) (hi : v.ownBlock = some i) : i < w.heap.size := by
  rcases h.2 with ⟨rfl, _⟩ | ⟨g, cap, cur, rfl, hb, hg, _⟩
  · cases hi
  · cases hi; exact (Array.getElem?_eq_some_iff.1 hg).1
theorem own_ge {w : World} {B e sz n : Nat} {v : Value} {xs : List Value} (h : w.ownsRow B e sz v n xs) (i : Nat) (hi : v.ownBlock = some i) : B ≤ i := by
  rcases h.2 with ⟨rfl, _⟩ | ⟨g, cap, cur, rfl, hb, hg, _⟩
  · cases hi
  · cases hi; exact hb
theorem Keeps.alloc_size (w : World) (o : Obj) : (w.alloc o).heap.size = w.heap.size + 1 := by show (w.heap.push o).size = _; simp
theorem own_keep0M {w w' : World} {B e sz n : Nat} {v : Value} {xs : List Value} (h : w.ownsRow B e sz v n xs) (k : Keeps [] w w') : w'.ownsRow B e sz v n xs := by
  refine ⟨h.1, ?_⟩
  rcases h.2 with h0 | ⟨g, cap, cur, rfl, hb, hg, hr⟩
  · exact .inl h0
  · exact .inr ⟨g, cap, cur, rfl, hb, (k.block g (lt_of_block hg) (by simp)).trans hg, hr⟩
theorem wp_gnM {P : Program} {c : Code} {Q : Exit → Act → World → Prop} {a : Act} {w : World} (h : ∀ W, W = w → c.wp P Q a W) : c.wp P Q a w := h w rfl
theorem wpList_zerosM {P : Program} {w : World} {ops : Array Oper} {rest : List Oper} {o : Oper} {a : Act} {Q : Exit → Act → World → Prop} (hg : o.guard = none) (s x : Operand) (base t tn e : Nat) {kn : IntKind}
    (ho : o.op = .call { callee := .builtin .append, args := #[s, x], argTypes := #[t, tn] }) (ht : P.underlying t = some (.slice e)) (htn : P.underlying tn = some (.int kn)) (hi : (P.info? e).map (fun i => (i.zero, i.size, i.bytes)) = some (some (.int .u8 0), 1, 1))
    (v : Value) (n : Nat) (xs : List Value) (hs : a.eval s = v) (hown : w.ownsRow base e 1 v n xs) (k : Nat) (hx : a.eval x = .int .i64 k) (hk : k ≤ 1000) (hn : n ≤ 1000) (h0 : n = 0 → k = 0)
    (h : ∀ A c w', w.grownBy w' v.ownBlock → wpList P ops Q rest (a.put o.dst (.slice A (n + k) c)) w') : wpList P ops Q (o :: rest) a w := by
  refine wpList_plain hg fun K' hK' => ?_
  obtain ⟨A, c, w', hrun, hgr⟩ := run_zeros_own (P := P) w base t tn o.type e ht htn hi v n xs hown k hk hn h0
  unfold Oper.wp execOp
  simp only [ho, resolve, invoke, builtin, Sem.run_bind, Sem.run_pure, Result.andThen_ok, List.map_toArray, List.map_cons, List.map_nil, hs, hx, hrun]
  exact hK' _ _ (h A c w' hgr)

set_option maxRecDepth 100000 in
set_option maxHeartbeats 2000000 in
theorem oput_any (w : World) (A : Option Addr) (n c : Nat) (os : List O) (h : OptsV w (.slice A n c) os) :
    Calls Tryz.prog 38 #[.slice A n c] w fun e w' => ∃ A' L c' er, e = .returned (.tuple #[.slice A' L c', .int .i64 er]) ∧ Keeps [] w w' ∧ ((putOk os = true ∧ er = 0 ∧ L = totO os + padN (totO os)) ∨ (putOk os = false ∧ er ≠ 0)) := by
  have CB := Lib.hid (containsBad_any w A n c os h)
  obtain ⟨A0, c0, he, hc1, hc2, hat⟩ := h
  injection he with e1 e2 e3
  subst e1 e2 e3
  have HAT := Lib.hid hat
  unfold maxLen at hc2
  clear hat
  cases hbad : os.any badO
  case true =>
    have CB2 := CB.out
    rw [hbad] at CB2
    have CG := Lib.hid CB2
    have HP := Lib.hid (show putOk os = false by unfold putOk; rw [hbad]; rfl)
    clear CB2 CB hbad
    go_enter Tryz.func38, Tryz.ntmps38
    go_wp2_with fail
    refine CG.out.mono ?_
    rintro e w1 ⟨rfl, k1⟩
    have K1 := Lib.hid k1
    clear k1
    go_wp2_with fail
    go_ret2
    exact ⟨_, _, _, _, rfl, K1.out, .inr ⟨HP.out, by decide⟩⟩
  case false =>
    have CB2 := CB.out
    rw [hbad] at CB2
    have CG := Lib.hid CB2
    have HNB := Lib.hid (fun (j : Nat) (x : O) (hx : os[j]? = some x) => (show badO x = false from by
      rw [List.any_eq_false] at hbad
      have := hbad x (List.mem_of_getElem? hx)
      simpa using this))
    have HPO := Lib.hid (show putOk os = decide (totO os ≤ 40) by unfold putOk; rw [hbad]; rfl)
    clear CB2 CB hbad
    go_enter Tryz.func38, Tryz.ntmps38
    go_wp2_with fail
    refine CG.out.mono ?_
    rintro e w1 ⟨rfl, k1⟩
    have K1 := Lib.hid k1
    clear k1
    go_wp2_with fail
    go_loopw [4, 11] (fun bv iv wr => ∃ (j : Nat) (xs : List UInt8), iv = .int .i64 j ∧ j ≤ os.length ∧ Hid (wr.ownsRow w.heap.size 5 1 bv xs.length (xs.map u8V)) ∧ Hid (xs.length = totO (os.take j)) ∧ xs.length ≤ 40 ∧ Hid (Keeps [] w wr)) (fun _ iv _ => os.length - (intOf iv).toNat)
    case atStart => exact ⟨0, [], rfl, Nat.zero_le _, Lib.hid ⟨by simp, .inl ⟨rfl, rfl⟩⟩, Lib.hid (by simp [totO]), by simp, K1⟩
    case round =>
      obtain ⟨j, xs, rfl, hj, OWN, HTO, hx40, KW⟩ := hrel
      obtain ⟨A4, c4, rfl⟩ := own_slice OWN.out
      by_cases hlt : j < os.length
      · have hlt' : (j : Int) < os.length := by omega
        obtain ⟨g, o, rfl, hall⟩ := HAT.out (by omega)
        obtain ⟨B, m, r1, r2, r3⟩ := hall j os[j] (List.getElem?_eq_getElem hlt)
        have r1' := cell_keeps KW.out r1 (by simp)
        have r2' := cell_keeps KW.out r2 (by simp)
        have R3 := Lib.hid r3
        have HX := Lib.hid (List.getElem?_eq_getElem hlt)
        unfold u8V at r1'
        clear hall r1 r2 r3
        generalize os[j] = x at *
        have hnb := HNB.out j x HX.out
        have hl38 : x.2.length ≤ 38 := by unfold badO at hnb; simp at hnb; omega
        obtain ⟨L2, hL2⟩ : ∃ L2 : Int, (x.2.length : Int) + 2 = L2 := ⟨_, rfl⟩
        have hw1 : IntKind.i64.wrap ((x.2.length : Int) + 2) = L2 := by rw [hL2]; exact IntWalk.i64_in _ (by omega)
        have hw2 : IntKind.u8.wrap L2 = L2 := by rw [IntKind.wrap_u8]; omega
        clear hnb
        have HL2 := Lib.hid hL2
        have hL2b : 0 ≤ L2 ∧ L2 ≤ 255 := by omega
        clear hL2
        go_upto_region 7 with fail
        refine wp_gnM (fun W1 hW1 => ?_)
        have K1 := Lib.hid (show Keeps [] wr W1 by rw [hW1]; first | exact Keeps.alloc _ _ _ | exact (Keeps.refl _ _).alloc' _)
        have HX1 := Lib.hid (show W1.heap[wr.heap.size]? = some (.cells #[.int .u8 x.1.toNat, .slice B x.2.length m] 60 (0, 0)) by rw [hW1]; exact (MapKept.heap_alloc wr _).1)
        clear hW1
        have c60 : W1.drew.cell? ⟨wr.heap.size, 0, none⟩ = some (.int .u8 x.1.toNat) := cell_of_block (w := W1.drew) HX1.out 0
        have c61 : W1.drew.cell? ⟨wr.heap.size, 1, none⟩ = some (.slice B x.2.length m) := cell_of_block (w := W1.drew) HX1.out 1
        refine wp_region_held_drew (S := fun W => W.cell? ⟨wr.heap.size, 0, none⟩ = some (.int .u8 x.1.toNat) ∧ W.cell? ⟨wr.heap.size, 1, none⟩ = some (.slice B x.2.length m)) (by kernel_rfl) ?hS (fun hHeld => ?_)
        case hS => exact ⟨c60, c61⟩
        refine wpAnyH_take (i := 0) (oi := _) (v := ?v0) rfl (by kernel_rfl) (by kernel_rfl) (by kernel_rfl) (fun _ _ _ h => h) (Or.inl ⟨by rfl, ?hy0⟩) (by assumption) ?rest0
        case hy0 => (intro w hSw; (try dsimp only at hSw); go_simp; try (with_reducible rfl))
        try simp only [List.getElem_toArray, List.getElem_cons_zero, List.getElem_cons_succ, Act.put, List.setIfInBounds_toArray, List.set_cons_zero, List.set_cons_succ]
        refine wpAnyH_take (i := 1) (oi := _) (v := ?v1) rfl (by kernel_rfl) (by kernel_rfl) (by kernel_rfl) (fun _ _ _ h => h) (Or.inl ⟨by rfl, ?hy1⟩) (by assumption) ?rest1
        case hy1 => (intro w hSw; (try dsimp only at hSw); go_simp; try (with_reducible rfl))
        try simp only [List.getElem_toArray, List.getElem_cons_zero, List.getElem_cons_succ, Act.put, List.setIfInBounds_toArray, List.set_cons_zero, List.set_cons_succ]
        refine wpAnyH_take (i := 2) (oi := _) (v := ?v2) rfl (by kernel_rfl) (by kernel_rfl) (by kernel_rfl) (fun _ _ _ h => h) (Or.inl ⟨by rfl, ?hy2⟩) (by assumption) ?rest2
        case hy2 => (intro w hSw; (try dsimp only at hSw); obtain ⟨q0, q1⟩ := hSw; go_simp; try (with_reducible rfl))
        try simp only [List.getElem_toArray, List.getElem_cons_zero, List.getElem_cons_succ, Act.put, List.setIfInBounds_toArray, List.set_cons_zero, List.set_cons_succ]
        refine wpAnyH_take (i := 3) (oi := _) (v := ?v3) rfl (by kernel_rfl) (by kernel_rfl) (by kernel_rfl) (fun _ _ _ h => h) (Or.inl ⟨by rfl, ?hy3⟩) (by assumption) ?rest3
        case hy3 => (intro w hSw; (try dsimp only at hSw); go_simp; try (with_reducible rfl))
        try simp only [List.getElem_toArray, List.getElem_cons_zero, List.getElem_cons_succ, Act.put, List.setIfInBounds_toArray, List.set_cons_zero, List.set_cons_succ]
        refine wpAnyH_take (i := 4) (oi := _) (v := ?v4) rfl (by kernel_rfl) (by kernel_rfl) (by kernel_rfl) (fun _ _ _ h => h) (Or.inl ⟨by rfl, ?hy4⟩) (by assumption) ?rest4
        case hy4 => (intro w hSw; (try dsimp only at hSw); obtain ⟨q0, q1⟩ := hSw; go_simp; try (with_reducible rfl))
        try simp only [List.getElem_toArray, List.getElem_cons_zero, List.getElem_cons_succ, Act.put, List.setIfInBounds_toArray, List.set_cons_zero, List.set_cons_succ]
        refine wpAnyH_take (i := 5) (oi := _) (v := ?v5) rfl (by kernel_rfl) (by kernel_rfl) (by kernel_rfl) (fun _ _ _ h => h) (Or.inl ⟨by rfl, ?hy5⟩) (by assumption) ?rest5
        case hy5 => (intro w hSw; (try dsimp only at hSw); go_simp; try (with_reducible rfl))
        try simp only [List.getElem_toArray, List.getElem_cons_zero, List.getElem_cons_succ, Act.put, List.setIfInBounds_toArray, List.set_cons_zero, List.set_cons_succ]
        refine wpAnyH_take (i := 6) (oi := _) (v := ?v6) rfl (by kernel_rfl) (by kernel_rfl) (by kernel_rfl) (fun _ _ _ h => h) (Or.inl ⟨by rfl, ?hy6⟩) (by assumption) ?rest6
        case hy6 => (intro w hSw; (try dsimp only at hSw); go_simp; try (with_reducible rfl))
        try simp only [List.getElem_toArray, List.getElem_cons_zero, List.getElem_cons_succ, Act.put, List.setIfInBounds_toArray, List.set_cons_zero, List.set_cons_succ]
        refine wpAnyH_take (i := 7) (oi := _) (v := ?v7) rfl (by kernel_rfl) (by kernel_rfl) (by kernel_rfl) (fun _ _ _ h => h) (Or.inl ⟨by rfl, ?hy7⟩) (by assumption) ?rest7
        case hy7 => (intro w hSw; (try dsimp only at hSw); go_simp; try (with_reducible rfl))
        try simp only [List.getElem_toArray, List.getElem_cons_zero, List.getElem_cons_succ, Act.put, List.setIfInBounds_toArray, List.set_cons_zero, List.set_cons_succ]
        refine wpAnyH_take (i := 10) (oi := _) (v := ?v10) rfl (by kernel_rfl) (by kernel_rfl) (by kernel_rfl) (fun _ _ _ h => h) (Or.inl ⟨by rfl, ?hy10⟩) (by assumption) ?rest10
        case hy10 => (intro w hSw; (try dsimp only at hSw); go_simp; try (with_reducible rfl))
        try simp only [List.getElem_toArray, List.getElem_cons_zero, List.getElem_cons_succ, Act.put, List.setIfInBounds_toArray, List.set_cons_zero, List.set_cons_succ]
        refine wpAnyH_take (i := 11) (oi := _) (v := ?v11) rfl (by kernel_rfl) (by kernel_rfl) (by kernel_rfl) (fun _ _ _ h => h) (Or.inl ⟨by rfl, ?hy11⟩) (by assumption) ?rest11
        case hy11 => (intro w hSw; (try dsimp only at hSw); obtain ⟨q0, q1⟩ := hSw; go_simp; try (with_reducible rfl))
        try simp only [List.getElem_toArray, List.getElem_cons_zero, List.getElem_cons_succ, Act.put, List.setIfInBounds_toArray, List.set_cons_zero, List.set_cons_succ]
        refine wpAnyH_ready (rs := [8]) (by kernel_rfl) (by simp) ?_
        refine AllReadyH.cons (o := _) rfl (fun K hK => ?_) AllReadyH.nil
        simp only [List.getElem_toArray, List.getElem_cons_zero, List.getElem_cons_succ]
        go_simp
        refine hK.out _ _ (⟨keeps_cell0 c60, keeps_cell0 c61⟩) (fun _ => ?_)
        clear hK K
        try simp only [List.getElem_toArray, List.getElem_cons_zero, List.getElem_cons_succ, Act.put, List.setIfInBounds_toArray, List.set_cons_zero, List.set_cons_succ]
        refine wpAnyH_ready (rs := [9]) (by kernel_rfl) (by simp) ?_
        refine AllReadyH.cons (o := _) rfl (fun K hK => ?_) AllReadyH.nil
        have kA : Keeps [] wr (W1.drew.alloc (.cells #[.int .u8 x.1.toNat, .int .u8 L2] 5)) := (K1.out.drew').alloc' _
        have hownA := own_keep0M OWN.out kA
        have hszA := kA.size
        have hza : (W1.drew.alloc (.cells #[.int .u8 x.1.toNat, .int .u8 L2] 5)).heap.size = W1.heap.size + 1 := Keeps.alloc_size _ _
        have hz1 : wr.heap.size < W1.heap.size := lt_of_block HX1.out
        have hzw : w.heap.size ≤ wr.heap.size := KW.out.size
        have hyA := BytesV.two W1.drew 5 x.1.toNat L2 (by omega) (by have := x.1.toNat_lt; omega) (by omega) (by omega)
        refine step_append_bytesM (by rfl) _ _ w.heap.size 37 5 (by rfl) Tryz.underlying37 Tryz.infoU8 (.slice A4 xs.length c4) xs.length xs (by rfl) hownA _ [b8 x.1.toNat, b8 L2] (by rfl) hyA (by simp; omega) (Nat.le_trans KW.out.size hszA) ?_
        intro v8 w8 hown8 hg8 hat8
        obtain ⟨A8, c8, rfl⟩ := own_slice hown8
        have hne8 : (Value.slice A4 xs.length c4).ownBlock ≠ some wr.heap.size := fun e => by have := own_lt OWN.out _ e; omega
        have d60 := cell_grownM hg8 (keeps_cell0 c60) hne8
        have d61 := cell_grownM hg8 (keeps_cell0 c61) hne8
        have kB : Keeps [] w w8 := Keeps.own (KW.out.trans kA) hg8 (fun i e => own_ge OWN.out i e)
        have hszB : w.heap.size ≤ w8.heap.size := kB.size
        refine hK.out _ _ (⟨d60, d61⟩) (fun _ => ?_)
        clear hK K
        try simp only [List.getElem_toArray, List.getElem_cons_zero, List.getElem_cons_succ, Act.put, List.setIfInBounds_toArray, List.set_cons_zero, List.set_cons_succ]
        refine wpAnyH_ready (rs := [12]) (by kernel_rfl) (by simp) ?_
        refine AllReadyH.cons (o := _) rfl (fun K hK => ?_) AllReadyH.nil
        refine step_append_bytesM (by rfl) _ _ w.heap.size 37 5 (by rfl) Tryz.underlying37 Tryz.infoU8 (.slice A8 (xs.length + 2) c8) (xs.length + 2) (xs ++ [b8 x.1.toNat, b8 L2]) (by rfl) hown8 _ x.2 (by rfl) (R3.out.keep0 kB) (by omega) hszB ?_
        intro v9 w9 hown9 hg9 hat9
        obtain ⟨A9, c9, rfl⟩ := own_slice hown9
        have hne9 : (Value.slice A8 (xs.length + 2) c8).ownBlock ≠ some wr.heap.size := fun e => by
          rcases hat8 with h0 | h0
          · exact hne8 (h0.symm.trans e)
          · have e' : (W1.drew.alloc (.cells #[.int .u8 x.1.toNat, .int .u8 L2] 5)).heap.size = wr.heap.size := Option.some.inj (h0.symm.trans e)
            omega
        have f60 := cell_grownM hg9 d60 hne9
        have f61 := cell_grownM hg9 d61 hne9
        have kC : Keeps [] w w9 := Keeps.own kB hg9 (fun i e => by
          rcases hat8 with h0 | h0
          · exact own_ge OWN.out i (h0.symm.trans e)
          · have e' : (W1.drew.alloc (.cells #[.int .u8 x.1.toNat, .int .u8 L2] 5)).heap.size = i := Option.some.inj (h0.symm.trans e)
            omega)
        refine hK.out _ _ (⟨f60, f61⟩) (fun _ => ?_)
        clear hK K
        try simp only [List.getElem_toArray, List.getElem_cons_zero, List.getElem_cons_succ, Act.put, List.setIfInBounds_toArray, List.set_cons_zero, List.set_cons_succ]
        refine wpAnyH_take (i := 13) (oi := _) (v := ?v13) rfl (by kernel_rfl) (by kernel_rfl) (by kernel_rfl) (fun _ _ _ h => h) (Or.inl ⟨by rfl, ?hy13⟩) (by assumption) ?rest13
        case hy13 => (intro w hSw; (try dsimp only at hSw); go_simp; try (with_reducible rfl))
        try simp only [List.getElem_toArray, List.getElem_cons_zero, List.getElem_cons_succ, Act.put, List.setIfInBounds_toArray, List.set_cons_zero, List.set_cons_succ]
        refine wpAnyH_done (by kernel_rfl) ?_ _
        clear hHeld
        have hlen9 : (xs ++ [b8 x.1.toNat, b8 L2] ++ x.2).length = totO (os.take (j + 1)) := by
          rw [totO_take HX.out, ← HTO.out]; simp; omega
        have hl9 : (xs ++ [b8 x.1.toNat, b8 L2] ++ x.2).length = xs.length + 2 + x.2.length := by simp; omega
        by_cases h40 : xs.length + 2 + x.2.length ≤ 40
        · have hd1 : decide (40 < ((xs.length + 2 + x.2.length : Nat) : Int)) = false := decide_eq_false (by omega)
          have hd2 : decide (40 < xs.length + 2 + x.2.length) = false := decide_eq_false (by omega)
          go_wp2_with fail
          go_roundw
          case rel => exact ⟨j + 1, xs ++ [b8 x.1.toNat, b8 L2] ++ x.2, by go_num, by omega, Lib.hid (by rw [hl9]; exact hown9), Lib.hid hlen9, by rw [hl9]; exact h40, Lib.hid kC⟩
          case measure => simp [intOf]; omega
        · have hd1 : decide (40 < ((xs.length + 2 + x.2.length : Nat) : Int)) = true := decide_eq_true (by omega)
          have hd2 : decide (40 < xs.length + 2 + x.2.length) = true := decide_eq_true (by omega)
          have HP := Lib.hid (show putOk os = false by
            rw [HPO.out]
            have h1 := totO_le os (j + 1)
            rw [← hlen9] at h1
            rw [hl9] at h1
            exact decide_eq_false (by omega))
          go_wp2_with fail
          go_ret2
          exact ⟨_, _, _, _, rfl, kC, .inr ⟨HP.out, by decide⟩⟩
      · obtain rfl : j = os.length := by omega
        have htot : xs.length = totO os := by have := HTO.out; rwa [List.take_length] at this
        have hp1 := pad_eq hx40
        obtain ⟨pz, hpz⟩ : ∃ pz, padN xs.length = pz := ⟨_, rfl⟩
        rw [hpz] at hp1
        have hpz3 : pz ≤ 3 := by rw [← hpz]; unfold padN; omega
        have hpz0 : xs.length = 0 → pz = 0 := fun h0 => by rw [← hpz, h0]; rfl
        have HTT := Lib.hid htot
        have HPZ := Lib.hid hpz
        clear htot hpz
        have HP := Lib.hid (show putOk os = true by rw [HPO.out, ← HTT.out]; exact decide_eq_true hx40)
        go_wp2_with (at_builtin; go_loud (refine wpList_zerosM rfl (.tmp 32) (.tmp 36) w.heap.size 37 3 5 rfl Tryz.underlying37 Tryz.underlying3 Tryz.infoU8 (.slice A4 xs.length c4) xs.length (xs.map u8V) rfl OWN.out pz (by first | rfl | (simp [hp1]; done)) (by omega) (by omega) hpz0 ?_; intro A7 c7 w7 hg7; have K7 := Lib.hid (Keeps.own KW.out hg7 (fun i e => own_ge OWN.out i e)); clear hg7))
        go_ret2
        exact ⟨_, _, _, _, rfl, K7.out, .inl ⟨HP.out, rfl, by rw [← HTT.out, HPZ.out]⟩⟩

set_option maxRecDepth 100000 in
set_option maxHeartbeats 1000000 in
theorem may_any (w : World) (s : Seg) (A1 A2 : Option Addr) (n1 c1 n2 c2 : Nat) (h : OptsV w (.slice A1 n1 c1) s.ops) (hd : BytesV w (.slice A2 n2 c2) s.data) :
    Calls Tryz.prog 11 #[segV s (.slice A1 n1 c1) (.slice A2 n2 c2)] w fun e w' => e = .returned (.bool (mayB s.ops s.data.length)) ∧ Keeps [] w w' := by
  obtain ⟨rfl, hn2, hn3⟩ := hd.form
  unfold maxLen at hn3
  clear hd
  have CP := Lib.hid (fun W (k : Keeps [] w W) => oput_any W A1 n1 c1 s.ops (h.keep0 k))
  clear h
  unfold segV
  obtain ⟨d, hdl⟩ : ∃ d, s.data.length = d := ⟨_, rfl⟩
  rw [hdl]
  clear hn2
  go_enter Tryz.func11, Tryz.ntmps11
  go_wp2_with fail
  refine (CP.out _ (Keeps.alloc _ _ _)).mono ?_
  rintro e w1 ⟨A', L, c', er, rfl, k1, hres⟩
  have hx := (k1.block _ (lt_of_block (MapKept.heap_alloc w _).1) (by simp)).trans (MapKept.heap_alloc w _).1
  have q8 := cell_of_block hx 8
  simp at q8
  have K1 := Lib.hid (((Keeps.refl [] w).alloc' _).trans k1)
  clear k1 hx CP
  rcases hres with ⟨hp, rfl, rfl⟩ | ⟨hp, her⟩
  · have hto : totO s.ops ≤ 40 := by unfold putOk at hp; simp at hp; exact hp.2
    obtain ⟨tt, htt⟩ : ∃ tt, totO s.ops + padN (totO s.ops) = tt := ⟨_, rfl⟩
    have htt4 : tt ≤ 43 := by rw [← htt]; unfold padN; omega
    have HR := Lib.hid (show mayB s.ops d = decide (IntKind.i64.wrap (20 + (tt : Int) + d) ≤ 1480) by
      unfold mayB; rw [hp, htt, Bool.true_and])
    rw [htt]
    clear htt hp hto
    have hw1 : IntKind.i64.wrap (20 + (tt : Int)) = 20 + (tt : Int) := IntWalk.i64_in _ (by omega)
    go_wp2_with fail
    go_ret
    exact ⟨ret_b (by rw [HR.out, wrapEqM]), K1.out⟩
  · have HR := Lib.hid (show mayB s.ops d = false by unfold mayB; rw [hp]; rfl)
    have her' : (er == 0) = false := by simpa using her
    go_wp2_with fail
    go_ret
    exact ⟨ret_b HR.out.symm, K1.out⟩
end Go.Proofs.YtakgohocimlagaaGreat
