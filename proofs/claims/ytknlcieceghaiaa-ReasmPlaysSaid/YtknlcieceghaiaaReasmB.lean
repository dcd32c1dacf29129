/-
  The walks of the document's row of places: New, Ready, Held, Put, Take, Same. Condition: at most 16384 places, at most 1,048,576 bytes.
-/
import Derived.Test.YtknlcieceghaiaaReasmA
import Derived.Test.YtknlcieceghaiaaReasmH
namespace Go.Proofs.Ytknlcieceghaiaa
open Go.RowKit
set_option linter.unusedVariables false
set_option linter.unusedSimpArgs false

/-- the document's buffer: the number of the first place, how many places, which have a byte, and which -/
structure RB where
  at_ : Int
  len : Nat
  g : Nat → Bool
  y : Nat → UInt8
def RB.is (r : RB) : List Bool := (List.range r.len).map r.g
def RB.by_ (r : RB) : List UInt8 := (List.range r.len).map r.y
theorem RB.is_at {r : RB} {i : Nat} (h : i < r.len) : r.is[i]? = some (r.g i) := by unfold RB.is; simp [h]
theorem RB.by_at {r : RB} {i : Nat} (h : i < r.len) : r.by_[i]? = some (r.y i) := by unfold RB.by_; simp [h]
theorem RB.is_len (r : RB) : r.is.length = r.len := by simp [RB.is]
theorem RB.by_len (r : RB) : r.by_.length = r.len := by simp [RB.by_]
structure RB.ok (r : RB) : Prop where
  at_ : U32 r.at_
  len : r.len ≤ 16384
/-- block q of w is the document's buffer r, its rows in blocks of J -/
structure RbAt (w : World) (q : Nat) (J : List Nat) (r : RB) (v1 v2 : Value) : Prop where
  head : w.heap[q]? = some (.cells #[.int .u32 r.at_, v1, v2] 49 (0, 0))
  is : RowJ Value.bool w J v1 r.is
  by_ : RowJ u8V w J v2 r.by_
theorem RbAt.keep {w w' : World} {q : Nat} {J S : List Nat} {r : RB} {v1 v2 : Value} (h : RbAt w q J r v1 v2) (k : Keeps S w w') (hq : q ∉ S) (hS : ∀ y ∈ J, y ∉ S) : RbAt w' q J r v1 v2 :=
  ⟨(k.block q (lt_of_block h.head) hq).trans h.head, h.is.keep k hS, h.by_.keep k hS⟩
theorem RbAt.keep0 {w w' : World} {q : Nat} {J : List Nat} {r : RB} {v1 v2 : Value} (h : RbAt w q J r v1 v2) (k : Keeps [] w w') : RbAt w' q J r v1 v2 := h.keep k (by simp) (by simp)
theorem RbAt.c0 {w : World} {q : Nat} {J : List Nat} {r : RB} {v1 v2 : Value} (h : RbAt w q J r v1 v2) : w.cell? ⟨q, 0, none⟩ = some (.int .u32 r.at_) := cell_of_block h.head 0
theorem RbAt.c1 {w : World} {q : Nat} {J : List Nat} {r : RB} {v1 v2 : Value} (h : RbAt w q J r v1 v2) : w.cell? ⟨q, 1, none⟩ = some v1 := cell_of_block h.head 1
theorem RbAt.c2 {w : World} {q : Nat} {J : List Nat} {r : RB} {v1 v2 : Value} (h : RbAt w q J r v1 v2) : w.cell? ⟨q, 2, none⟩ = some v2 := cell_of_block h.head 2
theorem RbAt.form1 {w : World} {q : Nat} {J : List Nat} {r : RB} {v1 v2 : Value} (h : RbAt w q J r v1 v2) : ∃ A c, v1 = .slice A r.len c := by
  obtain ⟨A, c, e, _⟩ := h.is
  exact ⟨A, c, by rw [e, r.is_len]⟩
theorem RbAt.form2 {w : World} {q : Nat} {J : List Nat} {r : RB} {v1 v2 : Value} (h : RbAt w q J r v1 v2) : ∃ A c, v2 = .slice A r.len c := by
  obtain ⟨A, c, e, _⟩ := h.by_
  exact ⟨A, c, by rw [e, r.by_len]⟩

/-! ### Ready -/
def RB.ready (r : RB) : Nat := endF r.g r.len 0
theorem ready_spec (r : RB) : r.ready ≤ r.len ∧ (∀ x, x < r.ready → r.g x = true) ∧ (r.ready = r.len ∨ r.g r.ready = false) := by
  obtain ⟨_, a2, a3, a4⟩ := endF_spec r.g r.len 0
  unfold RB.ready
  exact ⟨by omega, fun x hx => a3 x (Nat.zero_le _) hx, by simpa using a4⟩
theorem ready_eq {r : RB} {k : Nat} (h1 : k ≤ r.len) (h2 : ∀ x, x < k → r.g x = true) (h3 : k = r.len ∨ r.g k = false) : r.ready = k :=
  endF_eq r.g r.len 0 k (Nat.zero_le _) (by omega) (fun x _ hx => h2 x hx) (by simpa using h3)
set_option maxRecDepth 100000 in
set_option maxHeartbeats 4000000 in
theorem rready_any {w : World} {q : Nat} {J : List Nat} {r : RB} {v1 v2 : Value} (h : RbAt w q J r v1 v2) (ok : r.ok) :
    Calls Try.prog 20 #[.pointer (some ⟨q, 0, none⟩)] w fun e w' => e = .returned (.int .i64 r.ready) ∧ w' = w := by
  obtain ⟨A1, c1, hv⟩ := h.form1
  subst hv
  have cq1 := h.c1
  have HI := Lib.hid h.is
  have hln := ok.len
  obtain ⟨n, hn⟩ : ∃ n, r.len = n := ⟨_, rfl⟩
  rw [hn] at cq1 HI hln
  obtain ⟨R, hR⟩ : ∃ R, r.ready = R := ⟨_, rfl⟩
  rw [hR]
  have HR := Lib.hid (fun k (h1 : k ≤ n) (h2 : ∀ x, x < k → r.g x = true) (h3 : k = n ∨ r.g k = false) => (hR.symm.trans (ready_eq (by omega) h2 (by rw [hn]; exact h3)) : R = k))
  have HN := Lib.hid hn
  clear h ok hn hR
  go_enter Try.func20, Try.ntmps20
  go_wp2_with fail
  go_loopg [3] (n + 1) (fun gk iv wx => ∃ i : Nat, iv = .int .i64 i ∧ i ≤ n ∧ gk = n + 1 - i ∧ wx = w ∧ Hid (∀ x, x < i → r.g x = true))
  case atStart => exact ⟨0, rfl, Nat.zero_le _, rfl, rfl, Lib.hid fun x hx => absurd hx (Nat.not_lt_zero _)⟩
  case round =>
    obtain ⟨i, rfl, hi, hg, hwx, HX⟩ := hrel
    subst hg
    obtain rfl := hwx.symm
    clear hwx
    rcases Nat.lt_or_ge i n with hlt | hge
    · have hltI : (i : Int) < (n : Int) := by omega
      have hi0 : (0 : Int) ≤ (i : Int) := by omega
      obtain ⟨g0, o0, hA, _, hcell⟩ := HI.out.get (by omega)
      subst hA
      have cc : w.cell? ⟨g0, o0 + i, none⟩ = some (.bool (r.g i)) := hcell i (r.g i) (RB.is_at (by have := HN.out; omega))
      clear hcell
      obtain ⟨b, hb⟩ : ∃ b, r.g i = b := ⟨_, rfl⟩
      rw [hb] at cc
      cases b with
      | false =>
        have hr : R = i := HR.out i (by omega) HX.out (.inr hb)
        subst hr
        clear hb
        go_wp2_with fail
        go_ret
        exact ⟨rfl, rfl⟩
      | true =>
        have HX2 := Lib.hid (show ∀ x, x < i + 1 → r.g x = true from fun x hx => by
          by_cases hxi : x = i
          · rw [hxi]; exact hb
          · exact HX.out x (by omega))
        clear hb
        go_wp2_with fail
        go_roundg (n + 1 - (i + 1))
        case measure => omega
        case rel => exact ⟨i + 1, by simp, by omega, rfl, rfl, HX2⟩
    · have hltI : ¬ (i : Int) < (n : Int) := by omega
      have hr : R = i := HR.out i (by omega) HX.out (.inl (by omega))
      subst hr
      have hRn : R = n := by omega
      subst hRn
      go_wp2_with fail
      go_ret
      exact ⟨rfl, rfl⟩

/-! ### Held -/
def RB.heldI (r : RB) (i : Nat) : List (Int × Int) := (heldD r.g r.len i).map fun p => (addI r.at_ p.1, addI r.at_ p.2)
def RB.held (r : RB) : List (Int × Int) := r.heldI r.len
theorem heldI_succ (r : RB) (i : Nat) : r.heldI (i + 1) = if startG r.g i = true then r.heldI i ++ [(addI r.at_ i, addI r.at_ (endF r.g (r.len - i) i))] else r.heldI i := by
  unfold RB.heldI
  rw [heldD_succ]
  split <;> simp
theorem heldI_len (r : RB) (i : Nat) : (r.heldI i).length ≤ i := by
  unfold RB.heldI heldD
  rw [List.length_map, List.length_map]
  exact Nat.le_trans (List.length_filter_le _ _) (by simp)
theorem heldI_one (r : RB) : r.heldI 1 = [] := rfl
theorem held_small {r : RB} {i : Nat} (h1 : 1 ≤ i) (h2 : r.len ≤ i) (h3 : i ≤ max r.len 1) : r.held = r.heldI i := by
  unfold RB.held
  by_cases h : r.len = 0
  · have : i = 1 := by omega
    rw [this, h]; rfl
  · rw [show r.len = i by omega]
set_option maxRecDepth 100000 in
set_option maxHeartbeats 8000000 in
theorem rheld_any {w : World} {q : Nat} {J : List Nat} {r : RB} {v1 v2 : Value} (h : RbAt w q J r v1 v2) (ok : r.ok) :
    Calls Try.prog 22 #[.pointer (some ⟨q, 0, none⟩)] w fun e w' => ∃ v, e = .returned v ∧ w'.ownsRow w.heap.size 68 2 v r.held.length (encH r.held) ∧ Keeps [] w w' := by
  obtain ⟨A1, c1, hv⟩ := h.form1
  subst hv
  have HB := Lib.hid h
  have hln := ok.len
  have HAT := Lib.hid ok.at_
  obtain ⟨n, hn⟩ : ∃ n, r.len = n := ⟨_, rfl⟩
  rw [hn] at hln
  have HN := Lib.hid hn
  obtain ⟨at_, hat⟩ : ∃ a, r.at_ = a := ⟨_, rfl⟩
  have HAE := Lib.hid hat
  have HCQ := Lib.hid (fun (W : World) (k : Keeps [] w W) => (show W.cell? ⟨q, 0, none⟩ = some (.int .u32 at_) ∧ W.cell? ⟨q, 1, none⟩ = some (.slice A1 n c1) ∧ RowJ Value.bool W J (.slice A1 n c1) r.is from by
    have hh := h.keep0 k
    refine ⟨by rw [← hat]; exact hh.c0, ?_, ?_⟩
    · rw [← hn]; exact hh.c1
    · rw [← hn]; exact hh.is))
  have HSU := Lib.hid (fun (i : Nat) => (heldI_succ r i))
  rw [hn] at HSU
  rw [hat] at HSU
  obtain ⟨i0, hi0, hz0, hz1, hz2⟩ := info_parts Try.infoH
  have I0 := Lib.hid hi0
  have Z0 := Lib.hid hz0
  have Z1 := Lib.hid hz1
  have Z2 := Lib.hid hz2
  clear h ok hn hat hi0 hz0 hz1 hz2
  go_enter Try.func22, Try.ntmps22
  go_wp2_with fail
  go_loopg [3, 4] (n + 1) (fun gk ov iv wx => ∃ i : Nat, iv = .int .i64 i ∧ 1 ≤ i ∧ i ≤ max n 1 ∧ gk = n + 2 - i ∧ Hid (wx.ownsRow w.heap.size 68 2 ov (r.heldI i).length (encH (r.heldI i)) ∧ Keeps [] w wx))
  case atStart => exact ⟨1, rfl, Nat.le_refl _, by omega, by omega, Lib.hid ⟨World.ownsRow_nil _ _ _ _, Keeps.refl _ _⟩⟩
  case round =>
    obtain ⟨i, rfl, hi1, hi, hg, HO⟩ := hrel
    subst hg
    obtain ⟨cq0, cq1, hrow⟩ := HCQ.out wr HO.out.2
    rcases Nat.lt_or_ge i n with hlt | hge
    · have hltI : (i : Int) < (n : Int) := by omega
      have hi0' : (0 : Int) ≤ (i : Int) := by omega
      obtain ⟨i', hi'⟩ : ∃ i' : Nat, i = i' + 1 := ⟨i - 1, by omega⟩
      have hii : (i : Int) - 1 = (i' : Int) := by omega
      have hii0 : (0 : Int) ≤ (i' : Int) := by omega
      have hii1 : (i' : Int) < (n : Int) := by omega
      have hiw : IntKind.i64.wrap (i' : Int) = (i' : Int) := by rw [IntWalk.i64_in _ (by omega)]
      obtain ⟨g0, o0, hA, _, hcell⟩ := hrow.get (by omega)
      subst hA
      have cc : wr.cell? ⟨g0, o0 + i, none⟩ = some (.bool (r.g i)) := hcell i (r.g i) (RB.is_at (by have := HN.out; omega))
      have cc' : wr.cell? ⟨g0, o0 + i', none⟩ = some (.bool (r.g i')) := hcell i' (r.g i') (RB.is_at (by have := HN.out; omega))
      have HCELL := Lib.hid hcell
      have HII := Lib.hid hi'
      clear hcell hrow hi'
      obtain ⟨b, hb⟩ : ∃ b, r.g i = b := ⟨_, rfl⟩
      rw [hb] at cc
      cases b with
      | false =>
        have HS := Lib.hid (show r.heldI (i + 1) = r.heldI i by rw [HSU.out, if_neg (by unfold startG; rw [hb]; simp)])
        clear hb cc'
        go_wp2_with fail
        go_roundg (n + 2 - (i + 1))
        case measure => omega
        case rel => exact ⟨i + 1, by simp, by omega, by omega, rfl, by rw [HS.out]; exact HO⟩
      | true =>
        obtain ⟨b', hb'⟩ : ∃ b, r.g i' = b := ⟨_, rfl⟩
        rw [hb'] at cc'
        cases b' with
        | true =>
          have HS := Lib.hid (show r.heldI (i + 1) = r.heldI i by rw [HSU.out, if_neg (by unfold startG; rw [hb, HII.out, Nat.add_sub_cancel, hb']; simp)])
          clear hb hb'
          go_wp2_with fail
          go_roundg (n + 2 - (i + 1))
          case measure => omega
          case rel => exact ⟨i + 1, by simp, by omega, by omega, rfl, by rw [HS.out]; exact HO⟩
        | false =>
          have HST := Lib.hid (show startG r.g i = true by unfold startG; rw [hb, HII.out, Nat.add_sub_cancel, hb']; simp)
          have HBI := Lib.hid hb
          clear hb hb'
          go_wp2_with fail
          clear cc cc' hii hii0 hii1 hiw
          go_loopg [5] (n + 1 - i) (fun gk kv wx => ∃ k : Nat, kv = .int .i64 k ∧ i ≤ k ∧ k ≤ n ∧ gk = n + 1 - k ∧ wx = wr ∧ Hid (∀ x, i ≤ x → x < k → r.g x = true))
          case atStart => exact ⟨i, rfl, Nat.le_refl _, by omega, rfl, rfl, Lib.hid fun x h1 h2 => by omega⟩
          case round =>
            obtain ⟨k, rfl, hik, hkn, hg, hwx, HX⟩ := hrel
            subst hg
            obtain rfl := hwx
            have hk0 : (0 : Int) ≤ (k : Int) := by omega
            have hkb : k ≤ 16384 := by omega
            have hib : i ≤ 16384 := by omega
            rcases Nat.lt_or_ge k n with hkl | hkg
            · have hkI : (k : Int) < (n : Int) := by omega
              have ck : wr.cell? ⟨g0, o0 + k, none⟩ = some (.bool (r.g k)) := HCELL.out k (r.g k) (RB.is_at (by have := HN.out; omega))
              obtain ⟨bk, hbk⟩ : ∃ b, r.g k = b := ⟨_, rfl⟩
              rw [hbk] at ck
              cases bk with
              | true =>
                have HX2 := Lib.hid (show ∀ x, i ≤ x → x < k + 1 → r.g x = true from fun x h1 h2 => by
                  by_cases hxk : x = k
                  · rw [hxk]; exact hbk
                  · exact HX.out x h1 (by omega))
                clear hbk
                go_wp2_with fail
                go_roundg (n + 1 - (k + 1))
                case measure => omega
                case rel => exact ⟨k + 1, by simp, by omega, by omega, rfl, rfl, HX2⟩
              | false =>
                have HKE := Lib.hid (show endF r.g (n - i) i = k from endF_eq r.g (n - i) i k hik (by omega) HX.out (.inr hbk))
                clear hbk
                go_wp2_with fail
                have x1 : IntKind.u32.wrap (i : Int) = (i : Int) := by simp [IntKind.wrap, IntKind.signed, IntKind.bits]; omega
                have x2 : IntKind.u32.wrap (k : Int) = (k : Int) := by simp [IntKind.wrap, IntKind.signed, IntKind.bits]; omega
                have x3 : IntKind.u32.wrap (at_ + (i : Int)) = addI at_ i := by simp [IntKind.wrap, IntKind.signed, IntKind.bits, addI]
                have x4 : IntKind.u32.wrap (at_ + (k : Int)) = addI at_ k := by simp [IntKind.wrap, IntKind.signed, IntKind.bits, addI]
                have HS := Lib.hid (show r.heldI (i + 1) = r.heldI i ++ [(addI at_ i, addI at_ k)] by rw [HSU.out, if_pos HST.out, HKE.out])
                have hhl : (r.heldI i).length ≤ 16384 := Nat.le_trans (heldI_len r i) (by omega)
                obtain ⟨L, hL⟩ : ∃ L, r.heldI i = L := ⟨_, rfl⟩
                rw [hL] at HO HS hhl
                have hob : ∀ j, u3.ownBlock = some j → w.heap.size ≤ j := fun j hj => (HO.out.1.lt j hj).1
                have HOB := Lib.hid hob
                have hBw := HO.out.2.size
                clear hL hob
                go_region_law (first
                  | (refine step_append_lies _ (by rfl) _ _ _ (by rfl) w.heap.size 68 i0 _ 2 8 Try.underlying38 I0.out Z0.out Z1.out Z2.out rfl (by omega) u3 L.length _ (by rfl) ((HO.out.1.alloc _).drew) ⟨wr.heap.size, 0, none⟩ 1 1 [.int .u32 (addI at_ i), .int .u32 (addI at_ k)] (by rfl) (by rfl) (World.news_of_block (cs := #[.int .u32 (addI at_ i), .int .u32 (addI at_ k)]) (t := 68) (fr := (0, 0)) (heap_alloc_new wr _)) (by simp [Value.oneCell']) (by omega) (by simp only [maxLen]; omega) (by omega) (by simp; omega) (wr.heap.size + 1) (by simp) ?_; intro gg cap w2 hown1 hgrow hat hlt2))
                all_goals
                  have O5 := Lib.hid hown1
                  have K5 := Lib.hid (show Keeps [] w w2 from Keeps.own ((HO.out.2.alloc' _).drew') hgrow (fun j hj => HOB.out j hj))
                  clear hown1 hgrow hat hlt2
                  go_wp2_with fail
                  go_roundg (n + 2 - (i + 1))
                  case measure => omega
                  case rel => exact ⟨i + 1, by simp, by omega, by omega, rfl, by rw [HS.out, List.length_append, encH_append]; exact Lib.hid ⟨O5.out, K5.out⟩⟩
            · have hkI : ¬ (k : Int) < (n : Int) := by omega
              have HKE := Lib.hid (show endF r.g (n - i) i = k from endF_eq r.g (n - i) i k hik (by omega) HX.out (.inl (by omega)))
              go_wp2_with fail
              have x1 : IntKind.u32.wrap (i : Int) = (i : Int) := by simp [IntKind.wrap, IntKind.signed, IntKind.bits]; omega
              have x2 : IntKind.u32.wrap (k : Int) = (k : Int) := by simp [IntKind.wrap, IntKind.signed, IntKind.bits]; omega
              have x3 : IntKind.u32.wrap (at_ + (i : Int)) = addI at_ i := by simp [IntKind.wrap, IntKind.signed, IntKind.bits, addI]
              have x4 : IntKind.u32.wrap (at_ + (k : Int)) = addI at_ k := by simp [IntKind.wrap, IntKind.signed, IntKind.bits, addI]
              have HS := Lib.hid (show r.heldI (i + 1) = r.heldI i ++ [(addI at_ i, addI at_ k)] by rw [HSU.out, if_pos HST.out, HKE.out])
              have hhl : (r.heldI i).length ≤ 16384 := Nat.le_trans (heldI_len r i) (by omega)
              obtain ⟨L, hL⟩ : ∃ L, r.heldI i = L := ⟨_, rfl⟩
              rw [hL] at HO HS hhl
              have hob : ∀ j, u3.ownBlock = some j → w.heap.size ≤ j := fun j hj => (HO.out.1.lt j hj).1
              have HOB := Lib.hid hob
              have hBw := HO.out.2.size
              clear hL hob
              go_region_law (first
                | (refine step_append_lies _ (by rfl) _ _ _ (by rfl) w.heap.size 68 i0 _ 2 8 Try.underlying38 I0.out Z0.out Z1.out Z2.out rfl (by omega) u3 L.length _ (by rfl) ((HO.out.1.alloc _).drew) ⟨wr.heap.size, 0, none⟩ 1 1 [.int .u32 (addI at_ i), .int .u32 (addI at_ k)] (by rfl) (by rfl) (World.news_of_block (cs := #[.int .u32 (addI at_ i), .int .u32 (addI at_ k)]) (t := 68) (fr := (0, 0)) (heap_alloc_new wr _)) (by simp [Value.oneCell']) (by omega) (by simp only [maxLen]; omega) (by omega) (by simp; omega) (wr.heap.size + 1) (by simp) ?_; intro gg cap w2 hown1 hgrow hat hlt2))
              all_goals
                have O5 := Lib.hid hown1
                have K5 := Lib.hid (show Keeps [] w w2 from Keeps.own ((HO.out.2.alloc' _).drew') hgrow (fun j hj => HOB.out j hj))
                clear hown1 hgrow hat hlt2
                go_wp2_with fail
                go_roundg (n + 2 - (i + 1))
                case measure => omega
                case rel => exact ⟨i + 1, by simp, by omega, by omega, rfl, by rw [HS.out, List.length_append, encH_append]; exact Lib.hid ⟨O5.out, K5.out⟩⟩
    · have hltI : ¬ (i : Int) < (n : Int) := by omega
      have HE := Lib.hid (show r.held = r.heldI i from held_small hi1 (by have := HN.out; omega) (by have := HN.out; omega))
      clear hrow
      go_wp2_with fail
      go_ret
      exact ⟨_, rfl, by rw [HE.out]; exact HO.out.1, HO.out.2⟩
end Go.Proofs.Ytknlcieceghaiaa
