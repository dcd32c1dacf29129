/-
  What conn asks of the layers below, by the walks: http.Look at bytes of a row, http.Request of a host alone. Condition: the library's variables lie as listed.
-/
import Derived.Test.YtocnkiojlifgpaaGreatDoorEvX
import Derived.Test.YtocnkiojlifgpaaGreatDoorHttpL
import Derived.Test.YtocnkiojlifgpaaGreatDoorFoldQ
import Derived.Lib.ConvBytes
namespace Go.Proofs.YtocnkiojlifgpaaGreatDoor
open Go.RowKit Go.Lib
set_option linter.unusedVariables false
set_option linter.unusedSimpArgs false

theorem rowAt_cells {w : World} {A : Option Addr} {b : List Nat} (h : Ev.RowAt w A b) (h8 : ∀ x ∈ b, x < 256) (h0 : 0 < b.length) : ∃ g o, A = some ⟨g, o, none⟩ ∧ ∀ j (hj : j < (b.map UInt8.ofNat).length), w.cell? ⟨g, o + j, none⟩ = some (.int .u8 ((b.map UInt8.ofNat)[j]).toNat) := by
  obtain ⟨g, o, rfl, hc⟩ := h h0
  refine ⟨g, o, rfl, fun j hj => ?_⟩
  have hj' : j < b.length := by simpa using hj
  rw [hc j b[j] (List.getElem?_eq_getElem hj')]
  have := h8 b[j] (List.getElem_mem _)
  simp only [List.getElem_map]
  congr 2
  simp
  omega
theorem RowAt.str {w : World} {A : Option Addr} {c : Nat} {b : List Nat} (h : Ev.RowAt w A b) (h8 : ∀ x ∈ b, x < 256) :
    (convert 42 9 (.slice A b.length c)).run Tryz.prog w = .ok (.string (bs (b.map UInt8.ofNat))) w := by
  rcases Nat.eq_zero_or_pos b.length with h0 | h0
  · have hl : b = [] := List.eq_nil_of_length_eq_zero h0
    subst hl
    cases A with
    | none =>
      show (convert 42 9 (.slice none 0 c)).run Tryz.prog w = _
      rw [run_convert_bytes_string w 42 9 5 none 0 c Tryz.underlying42 Tryz.underlying5 Tryz.underlying9]
      simp [Conv.bytesToString]
      rfl
    | some a => exact run_convert_bytes_back w 42 9 5 a c [] Tryz.underlying42 Tryz.underlying5 Tryz.underlying9 (fun j hj => by simp at hj)
  · obtain ⟨g, o, rfl, hc⟩ := rowAt_cells h h8 h0
    have e := run_convert_bytes_back (P := Tryz.prog) w 42 9 5 ⟨g, o, none⟩ c (b.map UInt8.ofNat) Tryz.underlying42 Tryz.underlying5 Tryz.underlying9 (fun j hj => by
      have e0 : (⟨g, o, none⟩ : Addr).add j = ⟨g, o + j, none⟩ := by unfold Addr.add; split <;> simp_all
      rw [e0]
      exact hc j hj)
    rw [List.length_map] at e
    exact e
theorem RowAt.keep {w w' : World} {A : Option Addr} {b : List Nat} (h : Ev.RowAt w A b) (k : Keeps [] w w') : Ev.RowAt w' A b := fun h0 => by
  obtain ⟨g, o, e, hc⟩ := h h0
  exact ⟨g, o, e, fun i x hx => cell_keeps k (hc i x hx) (by simp)⟩
theorem look_row (w : World) (hw : LW w) (A : Option Addr) (c : Nat) (b : List Nat) (h : Ev.RowAt w A b) (h8 : ∀ x ∈ b, x < 256) (hn : b.length ≤ 90000) :
    Calls Tryz.prog 223 #[.slice A b.length c] w fun en w' => en = .returned (.tuple #[.int .i64 (lookH (b.map UInt8.ofNat)).1, .string (bs (lookH (b.map UInt8.ofNat)).2)]) ∧ Keeps [] w w' :=
  look_core w hw A b.length c (b.map UInt8.ofNat) (fun w' k => RowAt.str (RowAt.keep h k) h8) (by simpa using hn)

def reqHead : List UInt8 := [71, 69, 84, 32, 47, 32, 72, 84, 84, 80, 47, 49, 46, 49, 13, 10]
def reqA (host : List UInt8) : List UInt8 := reqHead ++ ([72, 111, 115, 116, 58, 32] ++ host ++ [13, 10]) ++ [13, 10]
theorem foldIs_bs (host : List UInt8) : foldIs (bs host) = (foldA host).isSome := by
  unfold foldIs
  rw [show foldL (bs host).data.toList = foldA host from foldL_eq host]
set_option maxRecDepth 100000 in
set_option maxHeartbeats 2000000 in
theorem request_new (w : World) (hw : LW w) (h0 : UInt8) (host : List UInt8) (hf : (foldA (h0 :: host)).isSome = true) (hl : host.length ≤ 252) :
    Calls Tryz.prog 8 #[.string (bs (h0 :: host)), .slice none 0 0] w fun e w' => ∃ W, Keeps [] w W ∧ e = .returned (.tuple #[.slice (some ⟨W.heap.size, 0, none⟩) (bs (reqA (h0 :: host))).size (grownCap W (bs (reqA (h0 :: host))).size 0 5), .int .i64 0]) ∧ w' = bytesWorld W 5 (bs (reqA (h0 :: host))) := by
  have HF := Lib.hid (fold_any w hw (bs (h0 :: host)))
  rw [foldIs_bs, foldB_bs, hf] at HF
  have HL := Lib.hid hl
  clear hw hf hl
  go_enter Tryz.func8, Tryz.ntmps8
  go_wp2_with fail
  refine HF.out.mono ?_
  rintro e w1 ⟨rfl, k1⟩
  have HK1 := Lib.hid k1
  clear k1 HF
  have hE := bs_empty h0 host
  go_wp2_with fail
  go_loopg [8, 9, 30] 0 (fun g ov lv iv wx => ov = .bool true ∧ lv = .bool false ∧ iv = .int .i64 0 ∧ Keeps [] w wx)
  case atStart => exact ⟨rfl, rfl, rfl, HK1.out⟩
  case round =>
    obtain ⟨rfl, rfl, rfl, hk⟩ := hrel
    have HK := Lib.hid hk
    clear hk
    go_wp2_with fail
    go_loopg [12, 75] 0 (fun g sv iv wx => sv = .string (bs reqHead) ∧ iv = .int .i64 0 ∧ Keeps [] w wx)
    case atStart => exact ⟨rfl, rfl, HK.out⟩
    case round =>
      obtain ⟨rfl, rfl, hk⟩ := hrel
      have HK3 := Lib.hid hk
      clear hk
      have hl := HL.out
      have hcv := Go.Lib.run_convert_string_bytes (P := Tryz.prog) wr 9 42 5 (bs (reqA (h0 :: host))) (u := .string) Tryz.underlying9 Tryz.underlying42 Tryz.underlying5
      have hsl : (bs reqHead).size = 16 := rfl
      have hs1 : (bs (h0 :: host)).size ≤ 253 := by rw [bs_size]; simp; omega
      have e1 : ¬ 9223372036854775807 < 6 + (bs (h0 :: host)).size := by omega
      have e2 : ¬ 9223372036854775807 < 6 + (bs (h0 :: host)).size + 2 := by omega
      have e3 : ¬ 9223372036854775807 < (bs reqHead).size + (6 + (bs (h0 :: host)).size + 2) := by omega
      have e4 : ¬ 9223372036854775807 < (bs reqHead).size + (6 + (bs (h0 :: host)).size + 2) + 2 := by omega
      have happ : bs reqHead ++ (⟨#[72, 111, 115, 116, 58, 32]⟩ ++ bs (h0 :: host) ++ ⟨#[13, 10]⟩) ++ ⟨#[13, 10]⟩ = bs (reqA (h0 :: host)) := by apply ByteArray.ext; simp [bs, reqA]
      clear hl hsl hs1
      go_wp2_with fail
      exact bodyPost_ret (v := .tuple #[.slice (some ⟨wr.heap.size, 0, none⟩) (bs (reqA (h0 :: host))).size (grownCap wr (bs (reqA (h0 :: host))).size 0 5), .int .i64 0]) (by simp [results, Tryz.results8, go_sem]) rfl ⟨wr, HK3.out, rfl, rfl⟩
end Go.Proofs.YtocnkiojlifgpaaGreatDoor
