/-
  The walks of the document's look of TLS: over, number, count, pass. Condition: the look lies in memory as RkAt says; at most 100,000 bytes.
-/
import Derived.Test.YtpoheemjdieogaaGreatDoorTrP
import Derived.Test.YtpoheemjdieogaaGreatDoorFoldQ
import Derived.Deep.RegionHeld3
import Derived.Deep.LoopGhost
namespace Go.Proofs.YtpoheemjdieogaaGreatDoor
open Go.RowKit Go.Lib
set_option linter.unusedVariables false
set_option linter.unusedSimpArgs false

/-- the look's cells -/
def RkB (w : World) (p : Nat) (A : Option Addr) (m c : Nat) (s : RS) : Prop := w.heap[p]? = some (.cells #[.slice A m c, .int .i64 (s.i : Int), .bool s.sh, .bool s.wr, .string s.name, .bool s.nd] 98 (0, 0))
structure RkAt (bs : List UInt8) (w : World) (p : Nat) (A : Option Addr) (m c : Nat) (s : RS) : Prop where
  at_ : RkB w p A m c s
  by_ : BytesV w (.slice A m c) bs
  len : m ≤ 100000
  le : s.i ≤ m
theorem RkB.nou8 {w : World} {p : Nat} {A : Option Addr} {m c : Nat} {s : RS} (h : RkB w p A m c s) : NoU8 w p := by
  intro i x hx
  rw [cell_of_block h i] at hx
  match i, hx with
  | 0, hx => cases hx
  | 1, hx => cases hx
  | 2, hx => cases hx
  | 3, hx => cases hx
  | 4, hx => cases hx
  | 5, hx => cases hx
  | i + 6, hx => simp at hx
theorem RkAt.bl {bs : List UInt8} {w : World} {p : Nat} {A : Option Addr} {m c : Nat} {s : RS} (h : RkAt bs w p A m c s) : m = bs.length := h.by_.form.1
theorem RkAt.keep0 {bs : List UInt8} {w w' : World} {p : Nat} {A : Option Addr} {m c : Nat} {s : RS} (h : RkAt bs w p A m c s) (k : Keeps [] w w') : RkAt bs w' p A m c s :=
  ⟨(k.block p (lt_of_block h.at_) (by simp)).trans h.at_, h.by_.keep0 k, h.len, h.le⟩
theorem RkAt.setI {bs : List UInt8} {w : World} {p : Nat} {A : Option Addr} {m c : Nat} {s : RS} (h : RkAt bs w p A m c s) (n : Nat) (hn : n ≤ m) : RkAt bs (w.setCell ⟨p, 1, none⟩ (.int .i64 (n : Int))) p A m c { s with i := n } :=
  ⟨heap_setCell_self h.at_ 1 _, h.by_.keep (Keeps.setCell w ⟨p, 1, none⟩ _) h.at_.nou8, h.len, hn⟩
theorem RkAt.few {bs : List UInt8} {w : World} {p : Nat} {A : Option Addr} {m c : Nat} {s : RS} (h : RkAt bs w p A m c s) : RkAt bs (w.setCell ⟨p, 2, none⟩ (.bool true)) p A m c s.few :=
  ⟨heap_setCell_self h.at_ 2 _, h.by_.keep (Keeps.setCell w ⟨p, 2, none⟩ _) h.at_.nou8, h.len, h.le⟩
theorem RkAt.bad {bs : List UInt8} {w : World} {p : Nat} {A : Option Addr} {m c : Nat} {s : RS} (h : RkAt bs w p A m c s) : RkAt bs (w.setCell ⟨p, 3, none⟩ (.bool true)) p A m c s.bad :=
  ⟨heap_setCell_self h.at_ 3 _, h.by_.keep (Keeps.setCell w ⟨p, 3, none⟩ _) h.at_.nou8, h.len, h.le⟩
theorem RkAt.setN {bs : List UInt8} {w : World} {p : Nat} {A : Option Addr} {m c : Nat} {s : RS} (h : RkAt bs w p A m c s) (nm : ByteArray) : RkAt bs (w.setCell ⟨p, 4, none⟩ (.string nm)) p A m c { s with name := nm } :=
  ⟨heap_setCell_self h.at_ 4 _, h.by_.keep (Keeps.setCell w ⟨p, 4, none⟩ _) h.at_.nou8, h.len, h.le⟩
theorem RkAt.setD {bs : List UInt8} {w : World} {p : Nat} {A : Option Addr} {m c : Nat} {s : RS} (h : RkAt bs w p A m c s) : RkAt bs (w.setCell ⟨p, 5, none⟩ (.bool true)) p A m c { s with nd := true } :=
  ⟨heap_setCell_self h.at_ 5 _, h.by_.keep (Keeps.setCell w ⟨p, 5, none⟩ _) h.at_.nou8, h.len, h.le⟩
section
variable {bs : List UInt8} {p : Nat} {A : Option Addr} {m c : Nat}
set_option maxRecDepth 100000 in
theorem rover_any (w : World) (s : RS) (h : RkAt bs w p A m c s) : Calls Tryz.prog 92 #[.pointer (some ⟨p, 0, none⟩)] w fun e w' => e = .returned (.bool s.over) ∧ w' = w := by
  have c2 : w.cell? ⟨p, 2, none⟩ = some (.bool s.sh) := cell_of_block h.at_ 2
  have c3 : w.cell? ⟨p, 3, none⟩ = some (.bool s.wr) := cell_of_block h.at_ 3
  unfold RS.over
  obtain ⟨a, ha⟩ : ∃ a, s.sh = a := ⟨_, rfl⟩
  obtain ⟨b, hb⟩ : ∃ b, s.wr = b := ⟨_, rfl⟩
  rw [ha] at c2 ⊢
  rw [hb] at c3 ⊢
  clear h ha hb
  cases a with
  | true =>
    go_enter Tryz.func92, Tryz.ntmps92
    go_wp2_with fail
    go_ret
    exact ⟨rfl, rfl⟩
  | false =>
    go_enter Tryz.func92, Tryz.ntmps92
    go_wp2_with fail
    go_ret
    exact ⟨by simp, rfl⟩
theorem numR_i {bs : List UInt8} {size e : Nat} {s : RS} (h : s.over = false) (h1 : size ≤ e - s.i) (h2 : size ≤ bs.length - s.i) : numR bs size e s = (beN ((bs.drop s.i).take size), { s with i := s.i + size }) := by
  unfold numR; rw [if_neg (by simp [h]), if_neg (by omega), if_neg (by omega)]
set_option maxRecDepth 100000 in
set_option maxHeartbeats 4000000 in
theorem rnumber_any (w : World) (s : RS) (h : RkAt bs w p A m c s) (size e : Nat) (hs : 1 ≤ size ∧ size ≤ 3) (he : e ≤ 1073841824) :
    Calls Tryz.prog 91 #[.pointer (some ⟨p, 0, none⟩), .int .i64 size, .int .i64 e] w fun en w' => en = .returned (.int .i64 ((numR bs size e s).1 : Int)) ∧ RkAt bs w' p A m c (numR bs size e s).2 ∧ Keeps [p] w w' := by
  have HO := Lib.hid (rover_any w s h)
  have H := Lib.hid h
  have hi := h.le
  have hm := h.len
  have HBL := Lib.hid h.bl
  obtain ⟨i, hii⟩ : ∃ i, s.i = i := ⟨_, rfl⟩
  have c1 : w.cell? ⟨p, 1, none⟩ = some (.int .i64 (i : Int)) := by rw [← hii]; exact cell_of_block h.at_ 1
  have c0 : w.cell? ⟨p, 0, none⟩ = some (.slice A m c) := cell_of_block h.at_ 0
  have z2 : w.frozen? ⟨p, 2, none⟩ = false := free_of_block h.at_ 2
  have z3 : w.frozen? ⟨p, 3, none⟩ = false := free_of_block h.at_ 3
  have x2 : w.cell? ⟨p, 2, none⟩ = some (.bool s.sh) := cell_of_block h.at_ 2
  have x3 : w.cell? ⟨p, 3, none⟩ = some (.bool s.wr) := cell_of_block h.at_ 3
  rw [hii] at hi
  cases ho : s.over with
  | true =>
    rw [ho] at HO
    rw [numR_over ho]
    clear h c1 c0 z2 z3 x2 x3 ho
    go_enter Tryz.func91, Tryz.ntmps91
    go_wp2_with fail
    refine HO.out.mono ?_
    rintro en w1 ⟨rfl, h1⟩
    obtain rfl := h1.symm
    clear HO h1
    go_wp2_with fail
    go_ret
    exact ⟨rfl, H.out, Keeps.refl _ _⟩
  | false =>
    rw [ho] at HO
    have HOV := Lib.hid ho
    have hsub : IntKind.i64.wrap ((e : Int) - (i : Int)) = (e : Int) - (i : Int) := by rw [wrap_in] <;> omega
    by_cases h1 : e - i < size
    · have hlt : (e : Int) - (i : Int) < (size : Int) := by omega
      have hn : numR bs size e s = (0, s.bad) := by unfold numR; rw [if_neg (by simp [ho]), hii, if_pos h1]
      rw [hn]
      obtain ⟨wr0, hwr⟩ : ∃ b, s.wr = b := ⟨_, rfl⟩
      rw [hwr] at x3
      clear h ho hn h1 z2 x2 c0 hwr
      go_enter Tryz.func91, Tryz.ntmps91
      go_wp2_with fail
      refine HO.out.mono ?_
      rintro en w1 ⟨rfl, h1⟩
      obtain rfl := h1.symm
      clear HO h1
      go_wp2_with fail
      go_ret
      exact ⟨rfl, H.out.bad, Keeps.setCell _ ⟨p, 3, none⟩ _⟩
    · have hlt : ¬ (e : Int) - (i : Int) < (size : Int) := by omega
      have hsub2 : IntKind.i64.wrap ((m : Int) - (i : Int)) = ((m - i : Nat) : Int) := by rw [wrap_in] <;> omega
      obtain ⟨r, hr⟩ : ∃ r, m - i = r := ⟨_, rfl⟩
      rw [hr] at hsub2
      have HS := Lib.hid (show w.drew.cell? ⟨p, 0, none⟩ = some (.slice A m c) ∧ w.drew.cell? ⟨p, 1, none⟩ = some (.int .i64 (i : Int)) from ⟨c0, c1⟩)
      by_cases h2 : r < size
      · have hlt2 : (r : Int) < (size : Int) := by omega
        have hn : numR bs size e s = (0, s.few) := by unfold numR; rw [if_neg (by simp [ho]), hii, if_neg h1, if_pos (by have := HBL.out; omega)]
        rw [hn]
        obtain ⟨sh0, hsh⟩ : ∃ b, s.sh = b := ⟨_, rfl⟩
        rw [hsh] at x2
        have x2' : w.drew.cell? ⟨p, 2, none⟩ = some (.bool sh0) := x2
        have z2' : w.drew.frozen? ⟨p, 2, none⟩ = false := z2
        clear h ho hn h1 h2 z3 x3 hsh z2 x2
        go_enter Tryz.func91, Tryz.ntmps91
        go_wp2_with fail
        refine HO.out.mono ?_
        rintro en w1 ⟨rfl, h1⟩
        obtain rfl := h1.symm
        clear HO h1
        go_wp2_with fail
        go_region_held3 (fun W => W.cell? ⟨p, 0, none⟩ = some (.slice A m c) ∧ W.cell? ⟨p, 1, none⟩ = some (.int .i64 (i : Int)))
          (exact HS.out)
          (fail)
        go_wp2_with fail
        go_ret
        exact ⟨rfl, (H.out.keep0 (Keeps.refl [] w).drew').few, (Keeps.refl [p] w).drew'.trans (Keeps.setCell w.drew ⟨p, 2, none⟩ _)⟩
      · have hlt2 : ¬ (r : Int) < (size : Int) := by omega
        have hle1 : size ≤ e - s.i := by omega
        have hle2 : size ≤ bs.length - s.i := by have := HBL.out; omega
        have hn := numR_i ho hle1 hle2
        rw [hn]
        obtain ⟨N, hN⟩ : ∃ N, beN ((bs.drop s.i).take size) = N := ⟨_, rfl⟩
        rw [hN]
        have HNN := Lib.hid hN
        have HII := Lib.hid hii
        have hb := Lib.hid (show i + size ≤ m ∧ bs.length = m by have := HBL.out; omega)
        obtain ⟨sz1, sz3⟩ := hs
        clear h ho hn h1 h2 z3 x3 z2 x2 hle1 hle2 hN
        go_enter Tryz.func91, Tryz.ntmps91
        go_wp2_with fail
        refine HO.out.mono ?_
        rintro en w1 ⟨rfl, h1⟩
        obtain rfl := h1.symm
        clear HO h1
        go_wp2_with fail
        go_region_held3 (fun W => W.cell? ⟨p, 0, none⟩ = some (.slice A m c) ∧ W.cell? ⟨p, 1, none⟩ = some (.int .i64 (i : Int)))
          (exact HS.out)
          (fail)
        go_wp2_with fail
        clear c0 c1 hsub hsub2 hlt hlt2
        go_loopg [7, 8] (size + 1) (fun g nv jv wx => ∃ j : Nat, jv = .int .i64 j ∧ nv = .int .i64 (beN ((bs.drop i).take j) : Nat) ∧ j ≤ size ∧ g = size + 1 - j ∧ Hid (RkAt bs wx p A m c { s with i := i + j } ∧ Keeps [p] w wx))
        case atStart => exact ⟨0, rfl, rfl, by omega, by omega, Lib.hid ⟨by have h9 := H.out.keep0 (Keeps.refl [] w).drew'; obtain ⟨i9, a9, b9, c9, d9⟩ := s; cases HII.out; exact h9, (Keeps.refl [p] w).drew'⟩⟩
        case round =>
          obtain ⟨j, rfl, rfl, hj, hg, HR⟩ := hrel
          subst hg
          rcases Nat.lt_or_ge j size with hlt | hge
          · have hltI : (j : Int) < (size : Int) := by omega
            obtain ⟨x, hx⟩ : ∃ x, bs[i + j]? = some x := ⟨_, List.getElem?_eq_getElem (by have := hb.out; omega)⟩
            obtain ⟨B, hB⟩ : ∃ B, beN ((bs.drop i).take j) = B := ⟨_, rfl⟩
            have hx2 : (bs.drop i)[j]? = some x := by rw [List.getElem?_drop]; exact hx
            have hB2 : beN ((bs.drop i).take (j + 1)) = B * 256 + x.toNat := by rw [beN_take hx2, hB]
            have hBl : B < 16777216 := by
              rw [← hB]
              refine Nat.lt_of_lt_of_le (beN_lt _) ?_
              have : ((bs.drop i).take j).length ≤ 2 := by rw [List.length_take]; omega
              exact Nat.le_trans (Nat.pow_le_pow_right (by omega) this) (by decide)
            have hxl := x.toNat_lt
            obtain ⟨K, hK⟩ : ∃ K, i + j = K := ⟨_, rfl⟩
            obtain ⟨B2, hB2'⟩ : ∃ B2, 256 * B = B2 := ⟨_, rfl⟩
            obtain ⟨NB, hNB⟩ : ∃ NB, B2 + x.toNat = NB := ⟨_, rfl⟩
            obtain ⟨K1, hK1⟩ : ∃ K1, K + 1 = K1 := ⟨_, rfl⟩
            have hKm : K < m := by have := hb.out; omega
            have hKc : m ≤ c := by have := HR.out.1.by_.form; omega
            rw [hK] at HR
            rw [hB]
            obtain ⟨g0, o0, rfl, hcell⟩ := HR.out.1.by_.get (by omega)
            have HS2 := Lib.hid (show wr.drew.cell? ⟨p, 0, none⟩ = some (.slice (some ⟨g0, o0, none⟩) m c) ∧ wr.drew.cell? ⟨p, 1, none⟩ = some (.int .i64 (K : Int)) ∧ wr.drew.cell? ⟨g0, o0 + K, none⟩ = some (.int .u8 (x.toNat : Int)) from ⟨cell_of_block HR.out.1.at_ 0, cell_of_block HR.out.1.at_ 1, hcell K x (by rw [← hK]; exact hx)⟩)
            have z1 : wr.drew.frozen? ⟨p, 1, none⟩ = false := free_of_block HR.out.1.at_ 1
            have y1 : wr.drew.cell? ⟨p, 1, none⟩ = some (.int .i64 (K : Int)) := cell_of_block HR.out.1.at_ 1
            have HF := Lib.hid (show RkAt bs (wr.drew.setCell ⟨p, 1, none⟩ (.int .i64 (K1 : Int))) p (some ⟨g0, o0, none⟩) m c { s with i := i + (j + 1) } ∧ Keeps [p] w (wr.drew.setCell ⟨p, 1, none⟩ (.int .i64 (K1 : Int))) by
              have h9 := (HR.out.1.keep0 (Keeps.refl [] wr).drew').setI K1 (by omega)
              exact ⟨by rw [show i + (j + 1) = K1 by omega]; exact h9, HR.out.2.trans ((Keeps.refl [p] wr).drew'.trans (Keeps.setCell wr.drew ⟨p, 1, none⟩ _))⟩)
            have HEQ := Lib.hid (show ((beN ((bs.drop i).take (j + 1)) : Nat) : Int) = (NB : Int) by rw [hB2]; omega)
            have HME := Lib.hid (show size + 1 - (j + 1) < size + 1 - j by omega)
            have f1 : IntKind.i64.wrap (256 * (B : Int)) = (B2 : Int) := by rw [wrap_in] <;> omega
            have f2 : IntKind.i64.wrap (x.toNat : Int) = (x.toNat : Int) := by rw [wrap_in] <;> omega
            have f3 : IntKind.i64.wrap ((B2 : Int) + (x.toNat : Int)) = (NB : Int) := by rw [wrap_in] <;> omega
            have f4 : IntKind.i64.wrap ((K : Int) + 1) = (K1 : Int) := by rw [wrap_in] <;> omega
            have f5 : (0 : Int) ≤ (K : Int) := by omega
            have f6 : (K : Int) < (m : Int) := by omega
            clear hx hB hx2 hB2 hBl hxl hK hB2' hNB hK1 hKm hKc hcell
            go_wp2_with fail
            go_region_held3 (fun W => W.cell? ⟨p, 0, none⟩ = some (.slice (some ⟨g0, o0, none⟩) m c) ∧ W.cell? ⟨p, 1, none⟩ = some (.int .i64 (K : Int)) ∧ W.cell? ⟨g0, o0 + K, none⟩ = some (.int .u8 (x.toNat : Int)))
              (exact HS2.out)
              (fail)
            go_wp2_with fail
            go_roundg (size + 1 - (j + 1))
            case measure => exact HME.out
            case rel => exact ⟨j + 1, by go_num, by rw [HEQ.out], by omega, rfl, HF⟩
          · have hjs : j = size := by omega
            subst hjs
            have hltI : ¬ (j : Int) < (j : Int) := by omega
            go_wp2_with fail
            go_ret
            exact ⟨by have h9 := HNN.out; rw [HII.out] at h9; rw [← h9]; rfl, HR.out.1, HR.out.2⟩
theorem numR_lt {bs : List UInt8} {size e : Nat} {s : RS} (h : size ≤ 3) : (numR bs size e s).1 < 16777216 := by
  unfold numR
  split
  · show (0 : Nat) < 16777216; decide
  · split
    · show (0 : Nat) < 16777216; decide
    · split
      · show (0 : Nat) < 16777216; decide
      · refine Nat.lt_of_lt_of_le (beN_lt _) ?_
        have : ((bs.drop s.i).take size).length ≤ 3 := by rw [List.length_take]; omega
        exact Nat.le_trans (Nat.pow_le_pow_right (by omega) this) (by decide)
theorem numR_end {bs : List UInt8} {size e : Nat} {s : RS} (hs : 1 ≤ size) (h : (numR bs size e s).2.over = false) : (numR bs size e s).2.i ≤ e := by
  unfold numR at h ⊢
  split
  · rename_i ho; rw [if_pos ho] at h; rw [ho] at h; cases h
  · rename_i ho
    rw [if_neg ho] at h
    split
    · rename_i h1; rw [if_pos h1] at h; simp [RS.over, RS.bad] at h
    · rename_i h1
      rw [if_neg h1] at h
      split
      · rename_i h2; rw [if_pos h2] at h; simp [RS.over, RS.few] at h
      · show s.i + size ≤ e; omega
set_option maxRecDepth 100000 in
set_option maxHeartbeats 4000000 in
theorem rcount_any (w : World) (s : RS) (h : RkAt bs w p A m c s) (size e : Nat) (hs : 1 ≤ size ∧ size ≤ 3) (he : e ≤ 1073841824) :
    Calls Tryz.prog 93 #[.pointer (some ⟨p, 0, none⟩), .int .i64 size, .int .i64 e] w fun en w' => en = .returned (.int .i64 ((cntR bs size e s).1 : Int)) ∧ RkAt bs w' p A m c (cntR bs size e s).2 ∧ Keeps [p] w w' ∧ (cntR bs size e s).1 ≤ 1073841824 := by
  have HN := Lib.hid (rnumber_any w s h size e hs he)
  have hlt := numR_lt (bs := bs) (e := e) (s := s) hs.2
  have hen := numR_end (bs := bs) (e := e) (s := s) hs.1
  unfold cntR
  obtain ⟨y, hy⟩ : ∃ y, numR bs size e s = y := ⟨_, rfl⟩
  rw [hy] at HN hlt hen ⊢
  obtain ⟨n, s1⟩ := y
  dsimp only at HN hlt hen ⊢
  clear h hy hs
  cases ho : s1.over with
  | true =>
    rw [if_pos (show true = true from rfl)]
    dsimp only
    have HOV := Lib.hid ho
    obtain ⟨i1, hi1⟩ : ∃ i1, s1.i = i1 := ⟨_, rfl⟩
    have HI1 := Lib.hid hi1
    rw [hi1]
    clear hen ho hi1
    go_enter Tryz.func93, Tryz.ntmps93
    go_wp2_with fail
    refine HN.out.mono ?_
    rintro en w1 ⟨rfl, h1, k1⟩
    have HR := Lib.hid (rover_any w1 s1 h1)
    rw [HOV.out] at HR
    have c1 : w1.cell? ⟨p, 1, none⟩ = some (.int .i64 (i1 : Int)) := by rw [← HI1.out]; exact cell_of_block h1.at_ 1
    have HF := Lib.hid (And.intro h1 (And.intro k1 (show i1 ≤ 1073841824 by have := h1.le; have := h1.len; have := HI1.out; omega)))
    clear h1 k1 HN
    go_wp2_with fail
    refine HR.out.mono ?_
    rintro en w2 ⟨rfl, h2⟩
    obtain rfl := h2.symm
    clear h2 HR
    go_wp2_with fail
    go_ret
    exact ⟨rfl, HF.out⟩
  | false =>
    rw [if_neg (show ¬ false = true by simp)]
    have hie := hen ho
    have HOV := Lib.hid ho
    clear hen ho
    by_cases hle : e - s1.i < n
    · rw [if_pos hle]
      dsimp only
      obtain ⟨i1, hi1⟩ : ∃ i1, s1.i = i1 := ⟨_, rfl⟩
      rw [hi1] at hie hle ⊢
      have f1 : IntKind.i64.wrap ((e : Int) - (i1 : Int)) = (e : Int) - (i1 : Int) := by rw [wrap_in] <;> omega
      have f2 : (e : Int) - (i1 : Int) < (n : Int) := by omega
      have HI1 := Lib.hid hi1
      clear hle hi1
      go_enter Tryz.func93, Tryz.ntmps93
      go_wp2_with fail
      refine HN.out.mono ?_
      rintro en w1 ⟨rfl, h1, k1⟩
      have HR := Lib.hid (rover_any w1 s1 h1)
      rw [HOV.out] at HR
      have c1 : w1.cell? ⟨p, 1, none⟩ = some (.int .i64 (i1 : Int)) := by rw [← HI1.out]; exact cell_of_block h1.at_ 1
      have x3 : w1.cell? ⟨p, 3, none⟩ = some (.bool s1.wr) := cell_of_block h1.at_ 3
      have z3 : w1.frozen? ⟨p, 3, none⟩ = false := free_of_block h1.at_ 3
      have c1' : (w1.setCell ⟨p, 3, none⟩ (.bool true)).cell? ⟨p, 1, none⟩ = some (.int .i64 (i1 : Int)) := by rw [← HI1.out]; exact cell_of_block h1.bad.at_ 1
      obtain ⟨b0, hb0⟩ : ∃ b, s1.wr = b := ⟨_, rfl⟩
      rw [hb0] at x3
      have HF := Lib.hid (And.intro h1.bad (And.intro (k1.trans (Keeps.setCell w1 ⟨p, 3, none⟩ (.bool true))) (show i1 ≤ 1073841824 by have := h1.le; have := h1.len; have := HI1.out; omega)))
      clear h1 k1 HN hb0
      go_wp2_with fail
      refine HR.out.mono ?_
      rintro en w2 ⟨rfl, h2⟩
      obtain rfl := h2.symm
      clear h2 HR
      go_wp2_with fail
      go_ret
      exact ⟨rfl, HF.out⟩
    · rw [if_neg hle]
      dsimp only
      obtain ⟨i1, hi1⟩ : ∃ i1, s1.i = i1 := ⟨_, rfl⟩
      rw [hi1] at hie hle ⊢
      obtain ⟨T, hT⟩ : ∃ T, i1 + n = T := ⟨_, rfl⟩
      have f1 : IntKind.i64.wrap ((e : Int) - (i1 : Int)) = (e : Int) - (i1 : Int) := by rw [wrap_in] <;> omega
      have f2 : ¬ (e : Int) - (i1 : Int) < (n : Int) := by omega
      have f3 : IntKind.i64.wrap ((i1 : Int) + (n : Int)) = (T : Int) := by rw [wrap_in] <;> omega
      have hT2 : T ≤ 1073841824 := by omega
      rw [hT]
      have HI1 := Lib.hid hi1
      have HT2 := Lib.hid hT2
      clear hle hi1 hT hT2
      go_enter Tryz.func93, Tryz.ntmps93
      go_wp2_with fail
      refine HN.out.mono ?_
      rintro en w1 ⟨rfl, h1, k1⟩
      have HR := Lib.hid (rover_any w1 s1 h1)
      rw [HOV.out] at HR
      have c1 : w1.cell? ⟨p, 1, none⟩ = some (.int .i64 (i1 : Int)) := by rw [← HI1.out]; exact cell_of_block h1.at_ 1
      have HF := Lib.hid (And.intro h1 (And.intro k1 HT2.out))
      clear h1 k1 HN
      go_wp2_with fail
      refine HR.out.mono ?_
      rintro en w2 ⟨rfl, h2⟩
      obtain rfl := h2.symm
      clear h2 HR
      go_wp2_with fail
      go_ret
      exact ⟨rfl, HF.out⟩
set_option maxRecDepth 100000 in
set_option maxHeartbeats 4000000 in
theorem rpass_any (w : World) (s : RS) (h : RkAt bs w p A m c s) (T e : Nat) :
    Calls Tryz.prog 94 #[.pointer (some ⟨p, 0, none⟩), .int .i64 T, .int .i64 e] w fun en w' => en = .returned (.tuple #[]) ∧ RkAt bs w' p A m c (passR bs T e s) ∧ Keeps [p] w w' := by
  have HO := Lib.hid (rover_any w s h)
  have H := Lib.hid h
  have HBL := Lib.hid h.bl
  have c0 : w.cell? ⟨p, 0, none⟩ = some (.slice A m c) := cell_of_block h.at_ 0
  have z1 : w.frozen? ⟨p, 1, none⟩ = false := free_of_block h.at_ 1
  have z2 : w.frozen? ⟨p, 2, none⟩ = false := free_of_block h.at_ 2
  have z3 : w.frozen? ⟨p, 3, none⟩ = false := free_of_block h.at_ 3
  have x1 : w.cell? ⟨p, 1, none⟩ = some (.int .i64 (s.i : Int)) := cell_of_block h.at_ 1
  have x2 : w.cell? ⟨p, 2, none⟩ = some (.bool s.sh) := cell_of_block h.at_ 2
  have x3 : w.cell? ⟨p, 3, none⟩ = some (.bool s.wr) := cell_of_block h.at_ 3
  obtain ⟨i0, hi0⟩ : ∃ b, s.i = b := ⟨_, rfl⟩
  obtain ⟨s0, hs0⟩ : ∃ b, s.sh = b := ⟨_, rfl⟩
  obtain ⟨w0, hw0⟩ : ∃ b, s.wr = b := ⟨_, rfl⟩
  rw [hi0] at x1
  rw [hs0] at x2
  rw [hw0] at x3
  clear h hi0 hs0 hw0
  cases ho : s.over with
  | true =>
    rw [ho] at HO
    rw [passR_over ho]
    clear ho x1 x2 x3 z1 z2 z3 c0
    go_enter Tryz.func94, Tryz.ntmps94
    go_wp2_with fail
    refine HO.out.mono ?_
    rintro en w1 ⟨rfl, h1⟩
    obtain rfl := h1.symm
    clear HO h1
    go_wp2_with fail
    ((try simp only [Exit.inBlock, Exit.then]); refine bodyPost_ret (results_none rfl _ _ _) rfl ?_)
    exact ⟨rfl, H.out, Keeps.refl _ _⟩
  | false =>
    rw [ho] at HO
    have hp : passR bs T e s = if e < T then s.bad else if bs.length < T then s.few else { s with i := T } := if_neg (by simp [ho])
    rw [hp]
    clear hp ho
    by_cases h1 : e < T
    · rw [if_pos h1]
      have f1 : (e : Int) < (T : Int) := by omega
      have HF := Lib.hid (And.intro H.out.bad (Keeps.setCell w ⟨p, 3, none⟩ (.bool true)))
      clear x1 x2 z1 z2 c0 h1
      go_enter Tryz.func94, Tryz.ntmps94
      go_wp2_with fail
      refine HO.out.mono ?_
      rintro en w1 ⟨rfl, h1⟩
      obtain rfl := h1.symm
      clear HO h1
      go_wp2_with fail
      ((try simp only [Exit.inBlock, Exit.then]); refine bodyPost_ret (results_none rfl _ _ _) rfl ?_)
      exact ⟨rfl, HF.out⟩
    · rw [if_neg h1]
      have f1 : ¬ (e : Int) < (T : Int) := by omega
      by_cases h2 : m < T
      · rw [if_pos (show bs.length < T by have := HBL.out; omega)]
        have f2 : (m : Int) < (T : Int) := by omega
        have HF := Lib.hid (And.intro H.out.few (Keeps.setCell w ⟨p, 2, none⟩ (.bool true)))
        clear x1 x3 z1 z3 h1 h2
        go_enter Tryz.func94, Tryz.ntmps94
        go_wp2_with fail
        refine HO.out.mono ?_
        rintro en w1 ⟨rfl, h1⟩
        obtain rfl := h1.symm
        clear HO h1
        go_wp2_with fail
        ((try simp only [Exit.inBlock, Exit.then]); refine bodyPost_ret (results_none rfl _ _ _) rfl ?_)
        exact ⟨rfl, HF.out⟩
      · rw [if_neg (show ¬ bs.length < T by have := HBL.out; omega)]
        have f2 : ¬ (m : Int) < (T : Int) := by omega
        have HF := Lib.hid (And.intro (H.out.setI T (by omega)) (Keeps.setCell w ⟨p, 1, none⟩ (.int .i64 (T : Int))))
        clear x2 x3 z2 z3 h1 h2
        go_enter Tryz.func94, Tryz.ntmps94
        go_wp2_with fail
        refine HO.out.mono ?_
        rintro en w1 ⟨rfl, h1⟩
        obtain rfl := h1.symm
        clear HO h1
        go_wp2_with fail
        go_end0
        exact ⟨rfl, HF.out⟩
end
end Go.Proofs.YtpoheemjdieogaaGreatDoor
