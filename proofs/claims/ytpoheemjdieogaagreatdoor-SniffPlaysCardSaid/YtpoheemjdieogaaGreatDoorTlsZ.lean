/-
  The walk of wire.Read over a callback that ends or gives up. Condition: a contract of the callback.
-/
import Derived.Test.YtpoheemjdieogaaGreatDoorTlsR
import Derived.Test.YtpoheemjdieogaaGreatDoorTlsS
import Derived.Defers
import Derived.Recover
import Derived.Laws.Pointers
import Derived.LaidEqlPtr
namespace Go.Proofs.YtpoheemjdieogaaGreatDoor
open Go.RowKit Go.Lib
set_option linter.unusedVariables false
set_option linter.unusedSimpArgs false

theorem act_cast {P : Program} {c : Code} {Q : Exit → Act → World → Prop} {a a' : Act} {w : World} (h : a = a') (hc : c.wp P Q a' w) : c.wp P Q a w := h ▸ hc
theorem run_neq_ptr_same {P : Program} (w : World) {tp te : TypeId} {j : TypeInfo} (a : Addr) (hp : P.underlying tp = some (.pointer te)) (hte : P.info? te = some j) :
    (binOp .neq tp (.pointer (some a)) (.pointer (some a))).run P w = .ok (.bool false) w := by
  have h : ∀ d : Nat, (Op.equalIn (d + 1) tp (.pointer (some a)) (.pointer (some a))).run P w = .ok true w := fun d => by
    simp [Op.equalIn, run_underlying hp, sizeOf, typeInfo, hte, run_sameAddr_same]
  simp only [binOp]
  simp [Op.equal, Op.maxDepth, h 9999]
theorem Tryz.readerInfo : (Tryz.prog.info? 149).isSome = true := by kernel_rfl
theorem Tryz.sameReader (a : Addr) (w : World) : (binOp .neq 116 (.pointer (some a)) (.pointer (some a))).run Tryz.prog w = .ok (.bool false) w := by
  obtain ⟨j, hj⟩ := Option.isSome_iff_exists.1 Tryz.readerInfo
  exact run_neq_ptr_same w a Tryz.underlying116 hj
theorem Tryz.funcNil (f : Fn) (a c : Array Value) (w : World) : (binOp .eql 123 (.func f a c) .nilFunc).run Tryz.prog w = .ok (.bool false) w := by
  have h : ∀ d : Nat, (Op.equalIn (d + 1) 123 (.func f a c) .nilFunc).run Tryz.prog w = .ok false w := fun d => by
    simp [Op.equalIn, run_underlying Tryz.underlying123]
  simp only [binOp]
  simp [Op.equal, Op.maxDepth, h 9999]
theorem Tryz.asserts (v : Value) (w : World) : (Instr.typeAssert (.iface 151 v) 20 151 true).run Tryz.prog w = .ok (.tuple #[v, .bool true]) w := by
  unfold Instr.typeAssert
  simp [run_underlying Tryz.underlying151]
set_option maxRecDepth 100000 in
set_option maxHeartbeats 4000000 in
theorem read1_panic (w : World) (r pb eb : Nat) (k x : Int) (bv : Value) (a : Nat) (hr : RdAt w r bv a) (hp : w.cell? ⟨pb, 0, none⟩ = some (.pointer (some ⟨r, 0, none⟩))) (he : w.cell? ⟨eb, 0, none⟩ = some (.int .i64 x)) (hz : w.frozen? ⟨eb, 0, none⟩ = false) (h1 : r ≠ pb) (h2 : r ≠ eb) :
    CallsD Tryz.prog 117 #[.pointer (some ⟨pb, 0, none⟩), .pointer (some ⟨eb, 0, none⟩)] (.panicking (gu r k)) w fun e u' w' =>
      e = .returned (.tuple #[]) ∧ u' = .panicking [{ v := .iface 151 (.agg #[.pointer (some ⟨r, 0, none⟩), .int .i64 k]), recovered := true }] ∧ w'.cell? ⟨eb, 0, none⟩ = some (.int .i64 k) ∧ Keeps [r, eb] w w' := by
  have c2 : w.cell? ⟨r, 2, none⟩ = some (.bool true) := cell_of_block hr 2
  have z2 : w.frozen? ⟨r, 2, none⟩ = false := free_of_block hr 2
  refine callsD_of_wpS Tryz.func117 rfl fun c₀ cs hu => ?_
  have hta := Tryz.asserts
  have hsr := Tryz.sameReader
  obtain ⟨w1, hw1⟩ : ∃ w1, w.setCell ⟨r, 2, none⟩ (.bool false) = w1 := ⟨_, rfl⟩
  have k1 : Keeps [r] w w1 := by rw [← hw1]; exact Keeps.setCell w ⟨r, 2, none⟩ _
  have p1 : w1.cell? ⟨pb, 0, none⟩ = some (.pointer (some ⟨r, 0, none⟩)) := cell_keeps k1 hp (by simpa using fun h => h1 h.symm)
  have e1 : w1.cell? ⟨eb, 0, none⟩ = some (.int .i64 x) := cell_keeps k1 he (by simpa using fun h => h2 h.symm)
  have pa : ∀ o, (w1.alloc o).cell? ⟨pb, 0, none⟩ = some (.pointer (some ⟨r, 0, none⟩)) := fun o => cell_keeps (Keeps.alloc [] w1 o) p1 (by simp)
  have ea : ∀ o, (w1.alloc o).cell? ⟨eb, 0, none⟩ = some (.int .i64 x) := fun o => cell_keeps (Keeps.alloc [] w1 o) e1 (by simp)
  have heb : eb < w.heap.size := World.block_lt_of_cell? w _ he
  have za : ∀ o, (w1.alloc o).frozen? ⟨eb, 0, none⟩ = false := fun o => by
    have kk : Keeps [r] w (w1.alloc o) := k1.trans (Keeps.alloc [r] w1 o)
    exact (World.frozen?_of_block (a := ⟨eb, 0, none⟩) (kk.block eb heb (by simpa using fun h => h2 h.symm))).trans hz
  apply wpS_seq
  apply wpS_region
  simp [wpOpsS, go_sem, hp, c2, z2, Tryz.ntmps117, Exit.thenS]
  rw [hw1]
  apply wpS_seq
  apply wpS_region
  simp [wpOpsS, go_sem, recoverD, hu, gu, Exit.thenS]
  refine wpS_of_wp ?_
  refine act_cast (a' := { tmps := #[.pointer (some ⟨pb, 0, none⟩), .pointer (some ⟨eb, 0, none⟩), undef, undef, undef, .pointer (some ⟨r, 0, none⟩), .pointer (some ⟨r, 0, none⟩), .pointer (some ⟨r, 2, none⟩), .iface 151 (.agg #[.pointer (some ⟨r, 0, none⟩), .int .i64 k]), undef, undef, undef, undef, undef, undef, undef, undef, undef, undef, undef, undef, undef], defers := [] }) (by kernel_rfl) ?_
  refine Go.wp_mono (Q := fun e a' w' => e = .normal ∧ a'.defers = [] ∧ w'.cell? ⟨eb, 0, none⟩ = some (.int .i64 k) ∧ Keeps [r, eb] w w') ?_ ?post
  case post =>
    rintro e a' w' ⟨rfl, hd, hc, hk⟩
    exact ⟨hd, _, rfl, .tuple #[], by simp [results, Tryz.results117, go_sem], rfl, rfl, hc, hk⟩
  go_wp2_with fail
  exact Keeps.setCell' ((k1.mono (by simp)).alloc' _) (.inr (by simp)) _
set_option maxRecDepth 100000 in
set_option maxHeartbeats 4000000 in
theorem read1_idle (w : World) (r pb eb : Nat) (bv : Value) (a : Nat) (hr : RdAt w r bv a) (hp : w.cell? ⟨pb, 0, none⟩ = some (.pointer (some ⟨r, 0, none⟩))) :
    CallsD Tryz.prog 117 #[.pointer (some ⟨pb, 0, none⟩), .pointer (some ⟨eb, 0, none⟩)] .returning w fun e u' w' =>
      e = .returned (.tuple #[]) ∧ u' = .returning ∧ w' = w.setCell ⟨r, 2, none⟩ (.bool false) := by
  have c2 : w.cell? ⟨r, 2, none⟩ = some (.bool true) := cell_of_block hr 2
  have z2 : w.frozen? ⟨r, 2, none⟩ = false := free_of_block hr 2
  refine callsD_of_wpS Tryz.func117 rfl fun c₀ cs hu => ?_
  obtain ⟨w1, hw1⟩ : ∃ w1, w.setCell ⟨r, 2, none⟩ (.bool false) = w1 := ⟨_, rfl⟩
  rw [hw1]
  apply wpS_seq
  apply wpS_region
  simp [wpOpsS, go_sem, hp, c2, z2, Tryz.ntmps117, Exit.thenS]
  rw [hw1]
  apply wpS_seq
  apply wpS_region
  simp [wpOpsS, go_sem, recoverD, hu, Exit.thenS]
  refine wpS_of_wp ?_
  refine act_cast (a' := { tmps := #[.pointer (some ⟨pb, 0, none⟩), .pointer (some ⟨eb, 0, none⟩), undef, undef, undef, .pointer (some ⟨r, 0, none⟩), .pointer (some ⟨r, 0, none⟩), .pointer (some ⟨r, 2, none⟩), .nilIface, undef, undef, undef, undef, undef, undef, undef, undef, undef, undef, undef, undef, undef], defers := [] }) (by kernel_rfl) ?_
  refine Go.wp_mono (Q := fun e a' w' => e = .normal ∧ a'.defers = [] ∧ w' = w1) ?_ ?post
  case post =>
    rintro e a' w' ⟨rfl, hd, rfl⟩
    refine ⟨hd, .returning, ?_, .tuple #[], by simp [results, Tryz.results117, go_sem], rfl, rfl, rfl⟩
    cases c₀
    simp_all
  go_wp2_with fail
set_option maxRecDepth 100000 in
set_option maxHeartbeats 4000000 in
theorem read_any (w : World) (S : List Nat) (hS : ∀ x ∈ S, x < w.heap.size) (A : Option Addr) (m c : Nat) (bs : List UInt8) (hb : BytesV w (.slice A m c) bs) (hm : m ≤ 100000) (F : Nat) (A1 C1 : Array Value) (hF : ∀ args w, (callFunc F args).run Tryz.prog w = .ok (.enter F args) w)
    (Pr : Int → Nat → World → Prop) (hst : ∀ k r w2 w3 T, (∀ x ∈ T, w.heap.size ≤ x) → Keeps T w2 w3 → Pr k r w2 → Pr k r w3)
    (hcb : ∀ w1 r A' c', Keeps [] w w1 → w.heap.size ≤ r → RdAt w1 r (.slice A' m c') 0 → (∀ w', Keeps (r :: S) w1 w' → BytesV w' (.slice A' m c') bs) →
      Calls Tryz.prog F (A1.push (.pointer (some ⟨r, 0, none⟩)) ++ C1) w1 fun en w2 => Keeps (r :: S) w1 w2 ∧ (∃ a, RdAt w2 r (.slice A' m c') a) ∧ ((∃ k, en = .panicked (gu r k) ∧ Pr k r w2) ∨ (en = .returned (.tuple #[]) ∧ Pr 0 r w2))) :
    Calls Tryz.prog 82 #[.slice A m c, .func (.func F) A1 C1] w fun en w' => Keeps S w w' ∧ ∃ k r, en = .returned (.int .i64 k) ∧ Pr k r w' := by
  have hmf : ∀ (fn : Fn) (first cap : Array Value) (w : World), (Instr.makeFunc fn first cap).run Tryz.prog w = .ok (.func fn first cap) w := fun _ _ _ _ => rfl
  have hfn := Tryz.funcNil
  have HB := Lib.hid hb
  have HC := Lib.hid hcb
  have HT := Lib.hid hst
  have HS := Lib.hid hS
  clear hb hcb hst hS
  obtain ⟨eb, heb⟩ : ∃ eb, w.heap.size = eb := ⟨_, rfl⟩
  obtain ⟨wa, hwa⟩ : ∃ wa, w.alloc (.cells #[.int .i64 0] 31) = wa := ⟨_, rfl⟩
  have ka : Keeps [] w wa := by rw [← hwa]; exact Keeps.alloc [] w _
  have hea : wa.heap[eb]? = some (.cells #[.int .i64 0] 31 (0, 0)) := by rw [← hwa, ← heb]; exact (MapKept.heap_alloc w _).1
  have HEA := Lib.hid hea
  have HKA := Lib.hid ka
  have hlen := HB.out.form.1
  have HCL := Lib.hid (bclone_own wa A m c bs (HB.out.keep0 ka) (by omega))
  have HL := Lib.hid hlen
  clear ka hea hlen
  go_enter_defers Tryz.func82, Tryz.ntmps82
  go_wp2_with fail
  refine HCL.out.mono ?_
  rintro en wb ⟨v, rfl, hown, kb⟩
  have hm2 : bs.length = m := by have := HL.out; omega
  rw [hm2] at hown
  obtain ⟨A', c', rfl⟩ : ∃ A' c', v = .slice A' m c' := by
    rcases hown.2 with ⟨rfl, h0⟩ | ⟨g, cap, cur, rfl, _⟩
    · exact ⟨none, 0, by rw [h0]⟩
    · exact ⟨_, _, rfl⟩
  have HOW := Lib.hid hown
  have HKB := Lib.hid (HKA.out.trans kb)
  have HSZ := Lib.hid kb.size
  have HEB := Lib.hid ((kb.block eb (lt_of_block HEA.out) (by simp)).trans HEA.out)
  clear hown kb HCL
  obtain ⟨r, hr⟩ : ∃ r, wb.heap.size = r := ⟨_, rfl⟩
  obtain ⟨wd, hwd⟩ : ∃ wd, wb.alloc (.cells #[.slice A' m c', .int .i64 0, .bool true] 149) = wd := ⟨_, rfl⟩
  have hd1 : wd.heap[r]? = some (.cells #[.slice A' m c', .int .i64 0, .bool true] 149 (0, 0)) := by rw [← hwd, ← hr]; exact (MapKept.heap_alloc wb _).1
  obtain ⟨pb, hpb⟩ : ∃ pb, wd.heap.size = pb := ⟨_, rfl⟩
  have hds : pb = r + 1 := by rw [← hpb, ← hwd, ← hr]; exact Array.size_push ..
  have kd : Keeps [] wb wd := by rw [← hwd]; exact Keeps.alloc [] wb _
  obtain ⟨wc, hwc⟩ : ∃ wc, wd.alloc (.cells #[.pointer (some ⟨r, 0, none⟩)] 116) = wc := ⟨_, rfl⟩
  have hc1 : wc.heap[pb]? = some (.cells #[.pointer (some ⟨r, 0, none⟩)] 116 (0, 0)) := by rw [← hwc, ← hpb]; exact (MapKept.heap_alloc wd _).1
  have kc : Keeps [] wd wc := by rw [← hwc]; exact Keeps.alloc [] wd _
  have hrc : RdAt wc r (.slice A' m c') 0 := (kc.block r (lt_of_block hd1) (by simp)).trans hd1
  have hlt : eb < r := by rw [← hr]; exact lt_of_block HEB.out
  have HEC := Lib.hid ((kc.block eb (by omega) (by simp)).trans ((kd.block eb (lt_of_block HEB.out) (by simp)).trans HEB.out))
  have hwr : wa.heap.size ≤ r ∧ w.heap.size ≤ r := by
    have h1 := HSZ.out
    have h2 := HKA.out.size
    have h3 := lt_of_block HEA.out
    omega
  have HOWC := Lib.hid (own_keep0 (own_keep0 HOW.out kd) kc)
  have hown : ∀ j, (Value.slice A' m c').ownBlock = some j → wa.heap.size ≤ j ∧ j < r := fun j hj => by
    rcases HOW.out.2 with ⟨h0, _⟩ | ⟨g, cap, cur, h0, h1, h2, _⟩
    · rw [h0] at hj; cases hj
    · rw [h0] at hj
      injection hj with hj
      rw [← hj, ← hr]
      exact ⟨h1, lt_of_block h2⟩
  have hwa2 : w.heap.size < wa.heap.size := by rw [heb]; exact lt_of_block HEA.out
  have HCC := Lib.hid (HC.out wc r A' c' (HKB.out.trans (kd.trans kc)) hwr.2 hrc (fun w' k' => by
    have h1 := own_keepS HOWC.out k' (fun j hj => by
      obtain ⟨h2, h3⟩ := hown j hj
      simp only [List.mem_cons, not_or]
      exact ⟨by omega, fun h => by have := HS.out j h; omega⟩)
    rw [← hm2] at h1
    have h2 := BytesV.of_own h1
    rw [hm2] at h2
    exact h2))
  have cpb : wc.cell? ⟨pb, 0, none⟩ = some (.pointer (some ⟨r, 0, none⟩)) := cell_of_block hc1 0
  have HPC := Lib.hid hc1
  have HKC := Lib.hid (HKB.out.trans (kd.trans kc))
  have HF := Lib.hid (And.intro hwr (And.intro hlt (And.intro hds hwa2)))
  clear hd1 kd hc1 kc hrc hwr hlt hown hwa2 hds
  go_wp2_with fail
  refine HCC.out.mono ?_
  rintro en w2 ⟨k2, ⟨a2, ha2⟩, ⟨kk, rfl, hp⟩ | ⟨rfl, hp⟩⟩
  · have HK2 := Lib.hid k2
    have HA2 := Lib.hid ha2
    have HP := Lib.hid hp
    clear k2 ha2 hp HCC
    have hebS : eb ∉ r :: S := fun h => by
      rcases List.mem_cons.1 h with h | h
      · have := HF.out.2.1; omega
      · have := HS.out eb h; omega
    have hpbS : pb ∉ r :: S := fun h => by
      have h1 := HF.out
      rcases List.mem_cons.1 h with h | h
      · omega
      · have := HS.out pb h; omega
    have he2 : w2.heap[eb]? = some (.cells #[.int .i64 0] 31 (0, 0)) := (HK2.out.block eb (lt_of_block HEC.out) hebS).trans HEC.out
    have hp2 : w2.cell? ⟨pb, 0, none⟩ = some (.pointer (some ⟨r, 0, none⟩)) := cell_keeps HK2.out (cell_of_block HPC.out 0) hpbS
    have HF2 := Lib.hid (show pb ≠ eb ∧ r ≠ pb ∧ r ≠ eb by have h1 := HF.out; omega)
    have HE2 := Lib.hid he2
    have HP2 := Lib.hid hp2
    clear he2 hp2 cpb
    go_wp2_with fail
    refine leaves_cons (f := 117) (args := #[.pointer (some ⟨pb, 0, none⟩), .pointer (some ⟨eb, 0, none⟩)]) (by simp) (by simp [go_sem]) ?_
    refine (read1_panic w2 r pb eb kk 0 _ a2 HA2.out HP2.out (cell_of_block HE2.out 0) (free_of_block HE2.out 0) HF2.out.2.1 HF2.out.2.2).mono ?_
    rintro e u' w3 ⟨rfl, rfl, hc, hk⟩
    refine ⟨.int .i64 kk, by simp [results, Tryz.results82, go_sem, hc], ?_, kk, r, rfl, ?_⟩
    · have h1 : Keeps (r :: eb :: S) w w3 := ((HKC.out.mono (by simp)).trans (HK2.out.mono (fun x hx => by rcases List.mem_cons.1 hx with h | h <;> simp [h]))).trans (hk.mono (fun x hx => by simp at hx; rcases hx with h | h <;> simp [h]))
      exact h1.fresh (fun x hx hlt => by
        have h2 := HF.out
        rcases List.mem_cons.1 hx with h | h
        · omega
        · rcases List.mem_cons.1 h with h | h
          · omega
          · exact h)
    · exact HT.out kk r w2 w3 [r, eb] (fun x hx => by have h2 := HF.out; simp at hx; omega) hk HP.out
  · have HK2 := Lib.hid k2
    have HA2 := Lib.hid ha2
    have HP := Lib.hid hp
    clear k2 ha2 hp HCC
    have hebS : eb ∉ r :: S := fun h => by
      rcases List.mem_cons.1 h with h | h
      · have := HF.out.2.1; omega
      · have := HS.out eb h; omega
    have hpbS : pb ∉ r :: S := fun h => by
      have h1 := HF.out
      rcases List.mem_cons.1 h with h | h
      · omega
      · have := HS.out pb h; omega
    have he2 : w2.heap[eb]? = some (.cells #[.int .i64 0] 31 (0, 0)) := (HK2.out.block eb (lt_of_block HEC.out) hebS).trans HEC.out
    have hp2 : w2.cell? ⟨pb, 0, none⟩ = some (.pointer (some ⟨r, 0, none⟩)) := cell_keeps HK2.out (cell_of_block HPC.out 0) hpbS
    have HF2 := Lib.hid (show pb ≠ eb ∧ r ≠ pb ∧ r ≠ eb by have h1 := HF.out; omega)
    have HE2 := Lib.hid he2
    have HP2 := Lib.hid hp2
    have ce2 : w2.cell? ⟨eb, 0, none⟩ = some (.int .i64 0) := cell_of_block he2 0
    have ze2 : w2.frozen? ⟨eb, 0, none⟩ = false := free_of_block he2 0
    clear he2 hp2 cpb
    go_wp2_with fail
    obtain ⟨w3, hw3⟩ : ∃ w3, w2.setCell ⟨eb, 0, none⟩ (.int .i64 0) = w3 := ⟨_, rfl⟩
    rw [hw3]
    have k3 : Keeps [eb] w2 w3 := by rw [← hw3]; exact Keeps.setCell w2 ⟨eb, 0, none⟩ _
    have hc3 : w3.heap[eb]? = some (.cells #[.int .i64 0] 31 (0, 0)) := by rw [← hw3]; simpa using heap_setCell_self HE2.out 0 (.int .i64 0)
    have ha3 : RdAt w3 r (.slice A' m c') a2 := HA2.out.keep k3 (by simpa using HF2.out.2.2)
    have hp3 : w3.cell? ⟨pb, 0, none⟩ = some (.pointer (some ⟨r, 0, none⟩)) := cell_keeps k3 HP2.out (by simpa using HF2.out.1)
    refine leaves_cons (f := 117) (args := #[.pointer (some ⟨pb, 0, none⟩), .pointer (some ⟨eb, 0, none⟩)]) (by simp) (by simp [go_sem]) ?_
    refine (read1_idle w3 r pb eb _ a2 ha3 hp3).mono ?_
    rintro e u' w4 ⟨rfl, rfl, hw4⟩
    have k4 : Keeps [r] w3 w4 := by rw [hw4]; exact Keeps.setCell w3 ⟨r, 2, none⟩ _
    have hc4 : w4.cell? ⟨eb, 0, none⟩ = some (.int .i64 0) := cell_keeps k4 (cell_of_block hc3 0) (by simpa using fun h => HF2.out.2.2 h.symm)
    have hk : Keeps [r, eb] w2 w4 := (k3.mono (by simp)).trans (k4.mono (by simp))
    clear hw4
    refine ⟨.int .i64 0, by simp [results, Tryz.results82, go_sem, hc4], ?_, 0, r, rfl, ?_⟩
    · have h1 : Keeps (r :: eb :: S) w w4 := ((HKC.out.mono (by simp)).trans (HK2.out.mono (fun x hx => by rcases List.mem_cons.1 hx with h | h <;> simp [h]))).trans (hk.mono (fun x hx => by simp at hx; rcases hx with h | h <;> simp [h]))
      exact h1.fresh (fun x hx hlt => by
        have h2 := HF.out
        rcases List.mem_cons.1 hx with h | h
        · omega
        · rcases List.mem_cons.1 h with h | h
          · omega
          · exact h)
    · exact HT.out 0 r w2 w4 [r, eb] (fun x hx => by have h2 := HF.out; simp at hx; omega) hk HP.out
end Go.Proofs.YtpoheemjdieogaaGreatDoor
