/-
  Plain facts on a host's state: its numbers stay in their ranges; the states of the chapter's rows. The walk of the laws' setup. No condition.
-/
import Derived.Test.YtgaidloicmkdaaaHostH
import Derived.Test.YtgaidloicmkdaaaHostD
import Derived.Laws.IdiomStrings
import Derived.Lib.BufferRead
namespace Go.Proofs.Ytgaidloicmkdaaa
open Go.RowKit
set_option linter.unusedVariables false
set_option linter.unusedSimpArgs false
attribute [local go_sem ↓] Go.wp_at_zero Go.wp_at_succ

theorem HS.settle_ok {s : HS} (o : s.Ok) (now : Int) : (s.settle now).Ok := by
  unfold HS.settle
  split
  · exact ⟨o.lp, o.iss, o.smss, o.sscale, o.room, o.rto, o.tries, o.rem, o.una, o.nxt, o.irs, o.next, o.edge, o.wl1, o.wl2, o.out, o.inn, o.read, o.free, o.mss, o.scale, o.scaled⟩
  · split
    · exact o
    · exact HS.begin_ok o now
theorem HS.out_ok {s : HS} (o : s.Ok) (A : Option Addr) (l : List UInt8) (c : Nat) (hl : l.length ≤ 131072) : ({ s with outA := A, out := l, outC := c } : HS).Ok :=
  ⟨o.lp, o.iss, o.smss, o.sscale, o.room, o.rto, o.tries, o.rem, o.una, o.nxt, o.irs, o.next, o.edge, o.wl1, o.wl2, hl, o.inn, o.read, o.free, o.mss, o.scale, o.scaled⟩
theorem HS.nxt_ok {s : HS} (o : s.Ok) (n : Int) (hn : U32 n) : ({ s with nxt := n } : HS).Ok :=
  ⟨o.lp, o.iss, o.smss, o.sscale, o.room, o.rto, o.tries, o.rem, o.una, hn, o.irs, o.next, o.edge, o.wl1, o.wl2, o.out, o.inn, o.read, o.free, o.mss, o.scale, o.scaled⟩
theorem HS.close_ok {s : HS} (o : s.Ok) (st : Int) : ({ s with closed := true, st := st } : HS).Ok :=
  ⟨o.lp, o.iss, o.smss, o.sscale, o.room, o.rto, o.tries, o.rem, o.una, o.nxt, o.irs, o.next, o.edge, o.wl1, o.wl2, o.out, o.inn, o.read, o.free, o.mss, o.scale, o.scaled⟩
theorem cutI_len (s : Int) (l : List UInt8) (frm long : Int) (h0 : 0 ≤ long) : (cutI s l frm long).1 = frm → ((cutI s l frm long).2.length : Int) ≤ long := by
  intro _
  obtain ⟨a0, a1⟩ := aheadI_bd frm s
  unfold cutI cutA cutB
  split
  · simp; exact h0
  · simp
    omega
theorem HS.took_ok {s : HS} (o : s.Ok) (g : Seg) (A : Option Addr) (c : Nat) (hl : s.inn.length ≤ 1000000000) : (s.took g s.free A c).Ok := by
  have hr := o.room
  have hf := o.free
  have hfd : s.free = s.room - (s.inn.length - s.read) := rfl
  have hrd := o.read
  unfold HS.took
  split
  · rename_i he
    have hc := cutI_len g.sq g.data s.next s.free o.free he
    generalize cutI g.sq g.data s.next s.free = cr at *
    exact ⟨o.lp, o.iss, o.smss, o.sscale, o.room, o.rto, o.tries, o.rem, o.una, o.nxt, o.irs, by unfold U32; simp only; omega, o.edge, o.wl1, o.wl2, o.out, by simp only [List.length_append]; omega, by simp only [List.length_append]; omega, by unfold HS.free; simp only [List.length_append]; omega, o.mss, o.scale, o.scaled⟩
  · exact o
theorem sees_free (s : HS) (g : Seg) (now : Int) (any : Bool) : (s.sees g now any).free = s.free := by
  unfold HS.sees HS.acked HS.edged HS.begin HS.free
  split <;> split <;> rfl
theorem HS.after_ok {s : HS} (o : s.Ok) {g : Seg} (gok : g.Ok) (now : Int) (A : Option Addr) (c : Nat) (hl : s.inn.length ≤ 1000000000) : (s.after g now A c).Ok := by
  unfold HS.after
  rw [← sees_free s g now false]
  exact HS.took_ok (HS.sees_ok o gok now false) g A c (by rw [(sees_same s g now false).2.2.2.1]; exact hl)

def suL (iss : Int) : SU := ⟨1, iss, 1000, -1, false, 100, 4, 10⟩
theorem suL_ok {iss : Int} (h : U32 iss) : (suL iss).Ok := ⟨by simp [suL], h, by simp [suL], by simp [suL], by simp [suL], by simp [suL], by simp [suL]⟩

set_option maxHeartbeats 400000 in
theorem setup_any (w : World) : Calls Try.prog 14 #[] w fun e w' => e = .returned (suV (suL 9)) ∧ Keeps [] w w' := by
  unfold suV suL
  go_enter Try.func14, Try.ntmps14
  go_wp2_with fail
  refine bodyPost_ret (v := .agg #[.int .u16 1, .int .u32 9, .int .u16 1000, .int .i64 (-1), .bool false, .int .i64 100, .int .u64 4, .int .i64 10]) (by simp [results, Try.results14, go_sem]) rfl ⟨rfl, ?_⟩
  (repeat (first | with_reducible exact Keeps.refl _ _ | with_reducible apply Keeps.alloc' | with_reducible apply Keeps.drew' | with_reducible apply Keeps.drewN' | (with_reducible apply Keeps.setCell'; rotate_left; · simp)))

theorem BytesV.str {P : Program} {w : World} {A : Option Addr} {n c : Nat} {l : List UInt8} (h : BytesV w (.slice A n c) l) (src dst e : TypeId) (hs : P.underlying src = some (.slice e)) (he : P.underlying e = some (.int .u8)) (hd : P.underlying dst = some .string) (hp : 0 < n) :
    (convert src dst (.slice A n c)).run P w = .ok (.string ⟨l.toArray⟩) w := by
  obtain ⟨g, o, rfl, hc⟩ := h.get hp
  have hn := h.form.1
  subst hn
  refine run_convert_bytes_back w src dst e ⟨g, o, none⟩ c l hs he hd (fun j hj => ?_)
  have e0 : (⟨g, o, none⟩ : Addr).add j = ⟨g, o + j, none⟩ := by unfold Addr.add; split <;> simp_all
  rw [e0]
  exact hc j l[j] (List.getElem?_eq_getElem hj)
end Go.Proofs.Ytgaidloicmkdaaa
