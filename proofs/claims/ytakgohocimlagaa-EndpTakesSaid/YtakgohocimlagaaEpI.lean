/-
  The helper law setup of package culvertlaw20; a law's pieces opened. No condition.
-/
import Derived.Test.YtakgohocimlagaaEpH
import Derived.OpenShut
import Derived.Lib.SmallJoins
import Derived.Deep.Strs
namespace Go.Proofs.Ytakgohocimlagaa
open Go.RowKit
set_option linter.unusedVariables false
set_option linter.unusedSimpArgs false
theorem BytesV.upto {w : World} {A : Option Addr} {n c : Nat} {l : List UInt8} (h : BytesV w (.slice A n c) l) {k : Nat} (hk : k ≤ n) : BytesV w (.slice A k c) (l.take k) := by
  obtain ⟨h1, h2, h3⟩ := h.form
  subst h1
  have hlt : (l.take k).length = k := by rw [List.length_take, Nat.min_eq_left hk]
  refine ⟨A, c, by rw [hlt], by rw [hlt]; omega, by omega, fun hp => ?_⟩
  rw [hlt] at hp
  obtain ⟨g, o, rfl, hc⟩ := h.get (by omega)
  refine ⟨g, o, rfl, fun i x hx => ?_⟩
  rw [List.getElem?_take] at hx
  split at hx
  · exact hc i x hx
  · cases hx
theorem BytesV.fromXe {w : World} {A X : Option Addr} {n c k e : Nat} {l : List UInt8} (h : BytesV w (.slice A n c) l) (hk : k ≤ e) (he : e ≤ n) (hX : (if c = k then A else Option.map (fun x : Addr => x.add k) A) = X) : BytesV w (.slice X (e - k) (c - k)) ((l.drop k).take (e - k)) := by
  have hf := h.form
  by_cases h0 : e = k
  · subst h0
    rw [Nat.sub_self]
    exact BytesV.empty _ (by omega)
  · obtain ⟨g, o, rfl, _⟩ := h.get (by omega)
    rw [if_neg (by omega)] at hX
    exact h.sub hk he X (c - k) (fun _ => by rw [← hX]; simp only [Option.map_some]; congr 1; unfold Addr.add; split <;> simp_all) (by omega) (by omega)
set_option maxRecDepth 100000 in
set_option maxHeartbeats 1000000 in
theorem setup_ok (w : World) : Calls Try.prog 4 #[] w fun e w' => e = .returned (setupV 1 2 9 1460 7 true 100 4 3) ∧ Keeps [] w w' := by
  unfold setupV
  go_enter Try.func4, Try.ntmps4
  go_wp2_with fail
  refine bodyPost_ret (v := .agg #[.int .u16 1, .int .u16 2, .int .u32 9, .int .u16 1460, .int .i64 7, .bool true, .int .i64 100, .int .u64 4, .int .i64 3]) (by simp [results, Try.results4, go_sem]) rfl ⟨rfl, ?_⟩
  repeat (first | exact Keeps.refl _ _ | apply Keeps.alloc' | apply Keeps.drew' | (refine Keeps.setCell' ?_ (by simp) _))
/-- x.Bytes() of an end towards a client -/
theorem ebytes_cli {w : World} {B x b mb : Nat} {s : ES} {st : BS} {tl : List UInt8} (h : Cli w B x b mb s st tl) :
    Calls Try.prog 6 #[.pointer (some ⟨x, 0, none⟩)] w fun e w' => ∃ A c, e = .returned (.slice A tl.length c) ∧ BytesV w' (.slice A tl.length c) tl ∧ Keeps [] w w' := by
  obtain ⟨A, c, ht⟩ := own_slice h.own
  have hb := BytesV.of_own h.own
  rw [ht] at hb
  have := h.okb.tr
  have := h.okb.r
  have := h.len
  refine (ebytes_any h.e (by have := h.st2; omega) A tl.length c tl ht hb (by omega)).mono ?_
  rintro e w' ⟨v, rfl, hv, k⟩
  obtain ⟨A', c', rfl⟩ := hv.slice
  exact ⟨A', c', rfl, hv, k⟩
theorem BytesV.str {P : Program} {w : World} {A : Option Addr} {n c : Nat} {l : List UInt8} (h : BytesV w (.slice A n c) l) (src dst e : TypeId) (hs : P.underlying src = some (.slice e)) (he : P.underlying e = some (.int .u8)) (hd : P.underlying dst = some .string) (hp : 0 < n) :
    (convert src dst (.slice A n c)).run P w = .ok (.string ⟨l.toArray⟩) w := by
  obtain ⟨g, o, rfl, hc⟩ := h.get hp
  have hn := h.form.1
  subst hn
  refine run_convert_bytes_back w src dst e ⟨g, o, none⟩ c l hs he hd (fun j hj => ?_)
  have e0 : (⟨g, o, none⟩ : Addr).add j = ⟨g, o + j, none⟩ := by unfold Addr.add; split <;> simp_all
  rw [e0]
  exact hc j l[j] (List.getElem?_eq_getElem hj)
/-- string(b), whatever its length. -/
theorem BytesV.str0 {P : Program} {w : World} {A : Option Addr} {n c : Nat} {l : List UInt8} (h : BytesV w (.slice A n c) l) (src dst e : TypeId) (hs : P.underlying src = some (.slice e)) (he : P.underlying e = some (.int .u8)) (hd : P.underlying dst = some .string) :
    (convert src dst (.slice A n c)).run P w = .ok (.string ⟨l.toArray⟩) w := by
  rcases Nat.eq_zero_or_pos n with h0 | h0
  · have hl : l = [] := List.eq_nil_of_length_eq_zero (by have := h.form.1; omega)
    subst hl
    subst h0
    cases A with
    | none =>
      rw [run_convert_bytes_string w src dst e none 0 c hs he hd]
      simp [Conv.bytesToString]
      rfl
    | some a => exact run_convert_bytes_back w src dst e a c [] hs he hd (fun j hj => by simp at hj)
  · exact h.str src dst e hs he hd h0
theorem Cli.lower {w : World} {B B' x b mb : Nat} {s : ES} {st : BS} {tl : List UInt8} (h : Cli w B x b mb s st tl) (hB : B' ≤ B) : Cli w B' x b mb s st tl :=
  ⟨h.e, h.ok, h.st2, h.inp, h.out, h.wri, h.bf, h.okb, ⟨h.own.1, by
    rcases h.own.2 with h0 | ⟨g, cap, cur, e, hb, hg, hr⟩
    · exact .inl h0
    · exact .inr ⟨g, cap, cur, e, Nat.le_trans hB hb, hg, hr⟩⟩, h.sep, h.xb, h.xm, Nat.le_trans hB h.zx, Nat.le_trans hB h.zb, Nat.le_trans hB h.zm, h.len⟩
theorem fl_0 {fl : Int} (h : fl = 16 ∨ fl = 17) : has fl 4 = false ∧ (has fl 1 = true → fl = 17) ∧ 0 ≤ fl ∧ fl ≤ 255 := by rcases h with rfl | rfl <;> decide
theorem fl_1 {fl : Int} (h : fl = 16 ∨ fl = 17) : has (bits .andNot .u8 fl 16) 4 = false ∧ has (bits .andNot .u8 fl 16) 16 = false ∧ (has (bits .andNot .u8 fl 16) 1 = true → fl = 17) ∧ 0 ≤ bits .andNot .u8 fl 16 ∧ bits .andNot .u8 fl 16 ≤ 255 := by rcases h with rfl | rfl <;> decide
theorem fl_3 {fl : Int} (h : fl = 16 ∨ fl = 17) : has (bits .or .u8 fl 2) 4 = false ∧ has (bits .or .u8 fl 2) 2 = true ∧ (has (bits .or .u8 fl 2) 1 = true → fl = 17) ∧ 0 ≤ bits .or .u8 fl 2 ∧ bits .or .u8 fl 2 ≤ 255 := by rcases h with rfl | rfl <;> decide
end Go.Proofs.Ytakgohocimlagaa
