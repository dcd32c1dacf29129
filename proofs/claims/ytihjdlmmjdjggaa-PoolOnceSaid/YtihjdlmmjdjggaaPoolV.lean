/-
  The walks of package pool, second part: a new pool, a copy. Condition: the pool's numbers are in the ranges of their kinds.
-/
import Derived.Test.YtihjdlmmjdjggaaPoolW
import Derived.Deep.RegionHeld3
namespace Go.Proofs.Ytihjdlmmjdjggaa
open Go.RowKit

/-- A new pool in new blocks. -/
def Made (ptr : Nat → Value) (s : PS) (w : World) (e : Ending) (w' : World) : Prop :=
  ∃ b mt mu, e = .returned (ptr b) ∧ PoolAt w' b mt mu s ∧ Keeps [] w w' ∧ w.heap.size ≤ b ∧ w.heap.size ≤ mt ∧ w.heap.size ≤ mu

def newBad (low high rest : Int) : Bool := decide (low = 0) || decide (high < low) || decide (maxTime < rest)

set_option maxHeartbeats 400000 in
theorem new_bad (w : World) (low high rest : Int) (hbad : newBad low high rest = true) :
    Calls Try.prog 8 #[.int .u16 low, .int .u16 high, .int .u64 rest] w fun e w' => e = .returned (.tuple #[.pointer none, .int .i64 1]) ∧ w = w' := by
  unfold newBad maxTime at hbad
  by_cases h1 : low = 0
  · subst h1
    clear hbad
    go_enter Try.func8, Try.ntmps8
    go_wp2
    go_ret2
    exact ⟨rfl, rfl⟩
  · have e1 : (low == 0) = false := by simpa using h1
    by_cases h2 : high < low
    · clear hbad h1
      go_enter Try.func8, Try.ntmps8
      go_wp2
      go_ret2
      exact ⟨rfl, rfl⟩
    · have h3 : 1099511627776 < rest := by simp [h1, h2] at hbad; exact hbad
      clear hbad h1
      go_enter Try.func8, Try.ntmps8
      go_wp2
      go_ret2
      exact ⟨rfl, rfl⟩

def PS.new (low high rest : Int) : PS := ⟨low, high, rest, [], [], 0⟩

theorem made_at (w : World) (low high rest now : Int) (tk : List (Int × Unit)) (til : List (Int × Int)) (o1 o2 : Obj) (m1 : MapAt (w.alloc o1) w.heap.size .u16 encT tk) (m2 : MapAt ((w.alloc o1).alloc o2) (w.heap.size + 1) .u16 encU til) :
    PoolAt (((w.alloc o1).alloc o2).alloc (.cells #[.int .u16 low, .int .u16 high, .int .u64 rest, .map (some w.heap.size), .map (some (w.heap.size + 1)), .int .u64 now] 49)) (w.heap.size + 1 + 1) w.heap.size (w.heap.size + 1) ⟨low, high, rest, tk, til, now⟩ ∧
    Keeps [] w (((w.alloc o1).alloc o2).alloc (.cells #[.int .u16 low, .int .u16 high, .int .u64 rest, .map (some w.heap.size), .map (some (w.heap.size + 1)), .int .u64 now] 49)) := by
  have s1 : (w.alloc o1).heap.size = w.heap.size + 1 := by simp
  have s2 : ((w.alloc o1).alloc o2).heap.size = w.heap.size + 1 + 1 := by simp
  refine ⟨⟨?_, ?_, ?_, by omega⟩, ?_⟩
  · have := (MapKept.heap_alloc ((w.alloc o1).alloc o2) (.cells #[.int .u16 low, .int .u16 high, .int .u64 rest, .map (some w.heap.size), .map (some (w.heap.size + 1)), .int .u64 now] 49)).1
    rw [s2] at this
    exact this
  · exact (m1.of_heap (Below.heap_alloc _ _ _ (by omega))).of_heap (Below.heap_alloc _ _ _ (by omega))
  · exact m2.of_heap (Below.heap_alloc _ _ _ (by omega))
  · exact ((Keeps.alloc _ _ _).trans (Keeps.alloc _ _ _)).trans (Keeps.alloc _ _ _)

set_option maxHeartbeats 400000 in
theorem new_ok (w : World) (low high rest : Int) (hok : newBad low high rest = false) :
    Calls Try.prog 8 #[.int .u16 low, .int .u16 high, .int .u64 rest] w (Made (fun b => .tuple #[.pointer (some ⟨b, 0, none⟩), .int .i64 0]) (PS.new low high rest) w) := by
  unfold newBad maxTime at hok
  simp only [Bool.or_eq_false_iff, decide_eq_false_iff_not] at hok
  obtain ⟨⟨h1, h2⟩, h3⟩ := hok
  have e1 : (low == 0) = false := by simpa using h1
  have hmm := @run_makeMap Try.prog
  have fin := made_at w low high rest 0 [] [] _ _ (MapAt.made w .u16 encT) (by have := MapAt.made (w.alloc (.map #[] 0)) .u16 encU; simpa using this)
  have F := Lib.hid fin
  clear fin
  go_enter Try.func8, Try.ntmps8
  go_wp2
  go_ret2
  exact ⟨_, _, _, rfl, F.out.1, F.out.2, by omega, by omega, by omega⟩

/-! ### a copy -/
/-- 'x.(M)' where x's dynamic type IS the map type M: what x holds. -/
theorem run_typeAssert_map (P : Program) (w : World) (t xT k e : TypeId) (v : Value) (h : P.underlying t = some (.map k e)) : (Instr.typeAssert (.iface t v) xT t false).run P w = .ok v w := by
  simp [Instr.typeAssert, run_underlying h, go_sem, Result.andThen]
theorem run_maps_clone (P : Program) (w : World) {r : Nat} {es : Array MapEntry} {clock : Nat} (t : TypeId) (hb : w.heap[r]? = some (.map es clock)) :
    (Extern.MapsClone.clone #[.iface t (.map (some r))]).run P w = .ok (.iface t (.map (some w.heap.size))) (w.alloc (.map es clock)) := by
  have e : Extern.MapsClone.clone #[.iface t (.map (some r))] = (getObj r >>= fun o => match o with
      | .map entries clock => (newObj (.map entries clock) >>= fun n => pure (.iface t (.map (some n))))
      | _ => stuck "maps.clone: a map expected") := rfl
  rw [e]
  simp [MapKept.run_getObj_map hb, Result.andThen, go_sem]

set_option maxHeartbeats 400000 in
theorem clone_tk (w : World) (b : Nat) (es : Array MapEntry) (clock : Nat) (hb : w.heap[b]? = some (.map es clock)) :
    Calls Try.prog 20 #[.map (some b)] w fun e w' => e = .returned (.map (some w.heap.size)) ∧ w.alloc (.map es clock) = w' := by
  have hq := fun w => run_eql_map_nil (P := Try.prog) w _ _ _ (some b) Try.underlying47
  go_enter Try.func20, Try.ntmps20
  go_wp2
  rw [run_callFunc_extern Try.func22 (by kernel_rfl) (by kernel_rfl) (by kernel_rfl) (e := Extern.MapsClone.clone) (by kernel_rfl), run_maps_clone Try.prog w 47 hb]
  simp only [Result.andThen]
  rw [Oper.upon_value]
  go_wp2
  rw [run_typeAssert_map Try.prog _ 47 20 _ _ _ Try.underlying47]
  simp only [Result.andThen]
  rw [Oper.upon_value]
  go_wp2
  go_ret
  exact ⟨rfl, rfl⟩

set_option maxHeartbeats 400000 in
theorem clone_un (w : World) (b : Nat) (es : Array MapEntry) (clock : Nat) (hb : w.heap[b]? = some (.map es clock)) :
    Calls Try.prog 21 #[.map (some b)] w fun e w' => e = .returned (.map (some w.heap.size)) ∧ w.alloc (.map es clock) = w' := by
  have hq := fun w => run_eql_map_nil (P := Try.prog) w _ _ _ (some b) Try.underlying39
  go_enter Try.func21, Try.ntmps21
  go_wp2
  rw [run_callFunc_extern Try.func22 (by kernel_rfl) (by kernel_rfl) (by kernel_rfl) (e := Extern.MapsClone.clone) (by kernel_rfl), run_maps_clone Try.prog w 39 hb]
  simp only [Result.andThen]
  rw [Oper.upon_value]
  go_wp2
  rw [run_typeAssert_map Try.prog _ 39 20 _ _ _ Try.underlying39]
  simp only [Result.andThen]
  rw [Oper.upon_value]
  go_wp2
  go_ret
  exact ⟨rfl, rfl⟩

theorem cell_later_alloc {w : World} {b k : Nat} {v : Value} (hb : b < w.heap.size) (h : w.cell? ⟨b, k, none⟩ = some v) (o : Obj) : (w.alloc o).cell? ⟨b, k, none⟩ = some v :=
  (World.cell?_of_block (w := w) (Below.heap_alloc w o b hb)).trans h

set_option maxHeartbeats 1000000 in
theorem copy_any {w : World} {b mt mu : Nat} {s : PS} (h : PoolAt w b mt mu s) :
    Calls Try.prog 15 #[.pointer (some ⟨b, 0, none⟩)] w (Made (fun b => .pointer (some ⟨b, 0, none⟩)) s w) := by
  have h0 := h.c0
  have h1 := h.c1
  have h2 := h.c2
  have h3 := h.c3
  have h4 := h.c4
  have h5 := h.c5
  go_enter Try.func15, Try.ntmps15
  go_wp2_with fail
  refine (none_any h).mono ?_
  rintro e w1 ⟨rfl, rfl⟩
  go_wp2_with fail
  clear h0 h1 h2 h5
  obtain ⟨es1, ck1, hm1, hl1⟩ := h.tk
  obtain ⟨es2, ck2, hm2, hl2⟩ := h.un
  have hbw := (Array.getElem?_eq_some_iff.1 h.head).1
  have htw := h.tk.lt
  have huw := h.un.lt
  have g3 := cell_later_alloc hbw h3 (.cells #[.int .u16 s.low, .int .u16 s.high, .int .u64 s.rest, .map (some mt), .map (some mu), .int .u64 s.now] 49)
  have g4 := cell_later_alloc hbw h4 (.cells #[.int .u16 s.low, .int .u16 s.high, .int .u64 s.rest, .map (some mt), .map (some mu), .int .u64 s.now] 49)
  have gm1 := (Below.heap_alloc w (.cells #[.int .u16 s.low, .int .u16 s.high, .int .u64 s.rest, .map (some mt), .map (some mu), .int .u64 s.now] 49) _ htw).trans hm1
  have gm2 := (Below.heap_alloc w (.cells #[.int .u16 s.low, .int .u16 s.high, .int .u64 s.rest, .map (some mt), .map (some mu), .int .u64 s.now] 49) _ huw).trans hm2
  have HM1 := Lib.hid gm1
  have HM2 := Lib.hid gm2
  have HX := Lib.hid (MapKept.heap_alloc w (.cells #[.int .u16 s.low, .int .u16 s.high, .int .u64 s.rest, .map (some mt), .map (some mu), .int .u64 s.now] 49)).1
  have HK := Keeps.alloc [] w (.cells #[.int .u16 s.low, .int .u16 s.high, .int .u64 s.rest, .map (some mt), .map (some mu), .int .u64 s.now] 49)
  have hsz : (w.alloc (.cells #[.int .u16 s.low, .int .u16 s.high, .int .u64 s.rest, .map (some mt), .map (some mu), .int .u64 s.now] 49)).heap.size = w.heap.size + 1 := by simp
  have HZ := Lib.hid hsz
  clear gm1 gm2 hm1 hm2 h3 h4 hsz
  generalize w.alloc (.cells #[.int .u16 s.low, .int .u16 s.high, .int .u64 s.rest, .map (some mt), .map (some mu), .int .u64 s.now] 49) = W at *
  have x3 : W.cell? ⟨w.heap.size, 3, none⟩ = some (.map (some mt)) := cell_of_block HX.out 3
  have x4 : W.cell? ⟨w.heap.size, 4, none⟩ = some (.map (some mu)) := cell_of_block HX.out 4
  have y3 : W.frozen? ⟨w.heap.size, 3, none⟩ = false := free_of_block HX.out 3
  have y4 : W.frozen? ⟨w.heap.size, 4, none⟩ = false := free_of_block HX.out 4
  have huW : mu < W.heap.size := by have := HZ.out; omega
  have htW : mt < W.heap.size := by have := HZ.out; omega
  have hbW : b < W.heap.size := by have := HZ.out; omega
  have hxW : w.heap.size < W.heap.size := by have := HZ.out; omega
  have huW1 : mu < W.heap.size + 1 := by omega
  have hbW1 : b < W.heap.size + 1 := by omega
  have hxW1 : w.heap.size < W.heap.size + 1 := by omega
  have hne : ¬ w.heap.size = b := by omega
  have hu2 := (Below.heap_alloc W (.map es1 ck1) mu huW).trans HM2.out
  have HX2 := Lib.hid (((Below.heap_alloc (W.alloc (.map es1 ck1)) (.map es2 ck2) _ (by simpa using hxW1)).trans (Below.heap_alloc W (.map es1 ck1) _ hxW)).trans HX.out)
  have Y3 := free_of_block HX2.out 3
  have Y4 := free_of_block HX2.out 4
  have HU2 := Lib.hid hu2
  clear hu2
  have q : ∀ (W : World) (k : Nat) (v : Value) (j : Nat) (u : Value), W.cell? ⟨b, j, none⟩ = some u → (W.setCell ⟨w.heap.size, k, none⟩ v).cell? ⟨b, j, none⟩ = some u := fun W k v j u hu => (World.cell?_of_block (w := W) (Below.heap_setCell W ⟨w.heap.size, k, none⟩ v b (by show ¬ b = w.heap.size; omega))).trans hu
  have q3 := fun k v => q W k v 3 _ g3
  have q4 := fun k v => q W k v 4 _ g4
  have r3 := fun k v k2 v2 => q _ k2 v2 3 _ (q3 k v)
  have r4 := fun k v k2 v2 => q _ k2 v2 4 _ (q4 k v)
  clear q
  go_region_held3 (fun w' => w'.cell? ⟨b, 3, none⟩ = some (.map (some mt)) ∧ w'.cell? ⟨b, 4, none⟩ = some (.map (some mu))) (go_keep) (first | (go_at_call 20; refine (clone_tk _ _ es1 ck1 (by exact HM1.out)).mono ?_; rintro e w' ⟨rfl, rfl⟩) | (go_at_call 21; refine (clone_un _ _ es2 ck2 (by exact HU2.out)).mono ?_; rintro e w' ⟨rfl, rfl⟩))
  have hfin : ∃ mt' mu', PoolAt ((((W.setCell ⟨w.heap.size, 3, none⟩ (.map (some W.heap.size))).setCell ⟨w.heap.size, 4, none⟩ (.map (some (W.heap.size + 1)))).alloc (.map es1 ck1)).alloc (.map es2 ck2)).drew w.heap.size mt' mu' s ∧
      Keeps [w.heap.size] W ((((W.setCell ⟨w.heap.size, 3, none⟩ (.map (some W.heap.size))).setCell ⟨w.heap.size, 4, none⟩ (.map (some (W.heap.size + 1)))).alloc (.map es1 ck1)).alloc (.map es2 ck2)).drew ∧ W.heap.size ≤ mt' ∧ W.heap.size ≤ mu' := by
    have e1 := heap_setCell_self HX.out 3 (.map (some W.heap.size))
    have e2 := heap_setCell_self e1 4 (.map (some (W.heap.size + 1)))
    have s0 : ((W.setCell ⟨w.heap.size, 3, none⟩ (.map (some W.heap.size))).setCell ⟨w.heap.size, 4, none⟩ (.map (some (W.heap.size + 1)))).heap.size = W.heap.size := by simp [World.setCell]
    have k0 : Keeps [w.heap.size] W ((W.setCell ⟨w.heap.size, 3, none⟩ (.map (some W.heap.size))).setCell ⟨w.heap.size, 4, none⟩ (.map (some (W.heap.size + 1)))) := (Keeps.setCell W ⟨w.heap.size, 3, none⟩ _).trans (Keeps.setCell _ ⟨w.heap.size, 4, none⟩ _)
    generalize (W.setCell ⟨w.heap.size, 3, none⟩ (.map (some W.heap.size))).setCell ⟨w.heap.size, 4, none⟩ (.map (some (W.heap.size + 1))) = V at *
    refine ⟨V.heap.size, V.heap.size + 1, ⟨?_, ?_, ?_, by omega⟩, (k0.trans ((Keeps.alloc _ _ _).trans (Keeps.alloc _ _ _))).trans (Keeps.drew _ _), by omega, by omega⟩
    · show ((V.alloc (.map es1 ck1)).alloc (.map es2 ck2)).heap[w.heap.size]? = _
      rw [Below.heap_alloc _ _ _ (by simp; omega), Below.heap_alloc _ _ _ (by omega), e2, s0]
      rfl
    · exact ⟨es1, ck1, (by show ((V.alloc (.map es1 ck1)).alloc (.map es2 ck2)).heap[V.heap.size]? = _; rw [Below.heap_alloc _ _ _ (by simp)]; exact (MapKept.heap_alloc V _).1), hl1⟩
    · refine ⟨es2, ck2, ?_, hl2⟩
      have := (MapKept.heap_alloc (V.alloc (.map es1 ck1)) (.map es2 ck2)).1
      rw [show (V.alloc (.map es1 ck1)).heap.size = V.heap.size + 1 by simp] at this
      exact this
  have HF := Lib.hid hfin
  clear hfin q3 q4 r3 r4
  go_wp2_with fail
  go_ret
  obtain ⟨mt', mu', f1, f2, f3, f4⟩ := HF.out
  exact ⟨w.heap.size, mt', mu', rfl, f1, ((HK.mono (T := [w.heap.size]) (by simp)).trans f2).fresh (by intro x hx hlt; simp at hx; omega), Nat.le_refl _, by omega, by omega⟩
end Go.Proofs.Ytihjdlmmjdjggaa
