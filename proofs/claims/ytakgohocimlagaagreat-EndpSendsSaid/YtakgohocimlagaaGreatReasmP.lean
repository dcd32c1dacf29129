/-
  The walks of package reasm (5): the runs of a map's keys, one call for each. Condition: keys are ints from 0 to 16383, no two alike.
-/
import Derived.Test.YtakgohocimlagaaGreatReasmS
namespace Go.Proofs.YtakgohocimlagaaGreat
open Go.RowKit
set_option linter.unusedVariables false
set_option linter.unusedSimpArgs false

/-- from, last, the runs told so far -/
abbrev RunSt := Int × Int × List (Int × Int)
def runStep (st : RunSt) (k : Int) : RunSt :=
  if 0 ≤ st.1 ∧ k ≠ st.2.1 + 1 then (k, k, st.2.2 ++ [(st.1, st.2.1 + 1)]) else if st.1 < 0 then (k, k, st.2.2) else (st.1, k, st.2.2)
def runFold (l : List Int) : RunSt := l.foldl runStep (-1, -1, [])
def runEnd (st : RunSt) : List (Int × Int) := if 0 ≤ st.1 then st.2.2 ++ [(st.1, st.2.1 + 1)] else st.2.2
def runsOf (m : List (Int × UInt8)) : List (Int × Int) := runEnd (runFold (keysS m))
theorem runFold_succ {l : List Int} {i : Nat} {k : Int} (h : l[i]? = some k) : runFold (l.take (i + 1)) = runStep (runFold (l.take i)) k := by
  unfold runFold
  rw [List.take_add_one, h]
  simp
theorem runFold_bd : ∀ {l : List Int} (st : RunSt), (∀ k ∈ l, 0 ≤ k ∧ k < 16384) → -1 ≤ st.1 → st.1 < 16384 → -1 ≤ st.2.1 → st.2.1 < 16384 →
    -1 ≤ (l.foldl runStep st).1 ∧ (l.foldl runStep st).1 < 16384 ∧ -1 ≤ (l.foldl runStep st).2.1 ∧ (l.foldl runStep st).2.1 < 16384
  | [], st, _, h1, h2, h3, h4 => ⟨h1, h2, h3, h4⟩
  | k :: r, st, hk, h1, h2, h3, h4 => by
    have hk0 := hk k (by simp)
    have hr : ∀ x ∈ r, 0 ≤ x ∧ x < 16384 := fun x hx => hk x (List.mem_cons_of_mem _ hx)
    simp only [List.foldl_cons]
    refine runFold_bd _ hr ?_ ?_ ?_ ?_ <;> unfold runStep <;> (repeat' split) <;> simp only <;> omega
theorem runFold_len : ∀ {l : List Int} (st : RunSt), (l.foldl runStep st).2.2.length ≤ st.2.2.length + l.length
  | [], st => by simp
  | k :: r, st => by
    have := runFold_len (l := r) (runStep st k)
    simp only [List.foldl_cons, List.length_cons]
    have h : (runStep st k).2.2.length ≤ st.2.2.length + 1 := by unfold runStep; split <;> (try split) <;> simp
    omega
theorem runFold_take_len (l : List Int) (i : Nat) : (runFold (l.take i)).2.2.length ≤ i := by
  have := runFold_len (l := l.take i) (-1, -1, [])
  simp only [List.length_nil, List.length_take] at this
  unfold runFold
  omega
theorem runFold_take_bd {l : List Int} (h : ∀ k ∈ l, 0 ≤ k ∧ k < 16384) (i : Nat) : -1 ≤ (runFold (l.take i)).1 ∧ (runFold (l.take i)).1 < 16384 ∧ -1 ≤ (runFold (l.take i)).2.1 ∧ (runFold (l.take i)).2.1 < 16384 :=
  runFold_bd _ (fun k hk => h k (List.mem_of_mem_take hk)) (by simp) (by simp) (by simp) (by simp)
/-- what is kept, run by run: I of the world behind the sorting, the runs so far, the world at hand -/
structure RunInv (S : List Nat) (g : FuncId) (p1 p2 : Value) (w : World) (I : World → List (Int × Int) → World → Prop) : Prop where
  old : ∀ x ∈ S, x < w.heap.size
  start : ∀ W, Keeps [] w W → I W [] W
  keep : ∀ W d w', Keeps [] w W → I W d w' → Keeps S W w'
  step : ∀ W d w' (f t : Int), Keeps [] w W → I W d w' → d.length ≤ 16384 → 0 ≤ f → f < 16384 → 0 ≤ t → t ≤ 16384 → Calls Tryz.prog g #[.int .i64 f, .int .i64 t, p1, p2] w' fun e w'' => e = .returned (.tuple #[]) ∧ I W (d ++ [(f, t)]) w''

theorem own_at {w : World} {B e n i : Nat} {v : Value} {xs : List Value} {x : Value} (h : w.ownsRow B e 1 v n xs) (hx : xs[i]? = some x) : ∃ g c, v = .slice (some ⟨g, 0, none⟩) n c ∧ B ≤ g ∧ w.cell? ⟨g, i, none⟩ = some x := by
  have hl : i < xs.length := (List.getElem?_eq_some_iff.1 hx).1
  have hn := h.1
  rcases h.2 with ⟨rfl, h0⟩ | ⟨g, cap, cur, rfl, hb, hg, hnc, hm, hs, ht⟩
  · omega
  · refine ⟨g, cap, rfl, hb, ?_⟩
    have := h.cells (g := g) rfl i x hx
    have e0 : (⟨g, 0, none⟩ : Addr).add i = ⟨g, 0 + i, none⟩ := by unfold Addr.add; split <;> simp_all
    rw [e0, Nat.zero_add] at this
    exact this

set_option maxRecDepth 100000 in
set_option maxHeartbeats 2000000 in
theorem pieces_Put {w : World} {mb : Nat} {m : List (Int × UInt8)} {S : List Nat} {p1 p2 : Value} {I : World → List (Int × Int) → World → Prop} (h : MapAt w mb .i64 u8V m) (hn : (AL.keys m).Nodup) (hk : ∀ k ∈ AL.keys m, 0 ≤ k ∧ k < 16384)
    (hI : RunInv S 93 p1 p2 w I) :
    Calls Tryz.prog 92 #[.map (some mb), .func (.func 93) #[] #[p1, p2]] w fun e w' => e = .returned (.tuple #[]) ∧ ∃ W, Keeps [] w W ∧ I W (runsOf m) w' := by
  have hks : ∀ k ∈ keysS m, 0 ≤ k ∧ k < 16384 := fun k hm => hk k ((keysS_perm m).mem_iff.1 hm)
  have hlen : (keysS m).length = m.length := by rw [(keysS_perm m).length_eq]; simp [AL.keys]
  have hm16 := keys_len hn hk
  have HS := Lib.hid (fun (W : World) (hW : Keeps [] w W) c hc => sorted_m (h.of_heap (hW.block _ h.lt (by simp))) hn hk (w := W) (c := c) hc)
  have HI := Lib.hid hI
  have hbd := runFold_take_bd hks
  have hdl := runFold_take_len (keysS m)
  have hsucc := fun i k (h : (keysS m)[i]? = some k) => runFold_succ h
  have hend : runsOf m = runEnd (runFold ((keysS m).take m.length)) := by rw [← hlen, List.take_length]; rfl
  generalize keysS m = ks at *
  have HE := Lib.hid hend
  have HB := Lib.hid hbd
  have HD := Lib.hid hdl
  have HC := Lib.hid hsucc
  have HK := Lib.hid hks
  clear h hI hk hn hbd hsucc hend hks hdl
  go_enter Tryz.func92, Tryz.ntmps92
  go_wp2_with fail
  refine (keysF_any w mb).mono ?_
  rintro e w1 ⟨rfl, hc1, kp1, hz1⟩
  go_wp2_with fail
  refine (HS.out w1 kp1 _ hc1).mono ?_
  rintro e w2 ⟨v, rfl, hown, kp2⟩
  have kp := kp1.trans kp2
  have hgb : ∀ i x, ks[i]? = some x → ∃ g c, v = .slice (some ⟨g, 0, none⟩) m.length c ∧ w.heap.size ≤ g ∧ w2.cell? ⟨g, i, none⟩ = some (.int .i64 x) := fun i x hx => by
    obtain ⟨g, c, h1, h2, h3⟩ := own_at hown (i := i) (x := .int .i64 x) (by rw [List.getElem?_map, hx]; rfl)
    exact ⟨g, c, h1, by omega, h3⟩
  obtain ⟨A, c, rfl⟩ := own_slice hown
  have KP := Lib.hid kp
  have GB := Lib.hid hgb
  clear hc1 kp1 hz1 hown kp2 kp hgb HS
  go_wp2_with fail
  go_loopw [4, 5, 12] (fun f l i wr => ∃ j : Nat, i = .int .i64 j ∧ f = .int .i64 (runFold (ks.take j)).1 ∧ l = .int .i64 (runFold (ks.take j)).2.1 ∧ j ≤ m.length ∧ I w2 (runFold (ks.take j)).2.2 wr) (fun _ _ i _ => m.length - (intOf i).toNat)
  case atStart => exact ⟨0, rfl, rfl, rfl, by omega, HI.out.start _ KP.out⟩
  case round =>
    obtain ⟨j, rfl, rfl, rfl, hj, hi⟩ := hrel
    obtain ⟨b1, b2, b3, b4⟩ := HB.out j
    have b5 := HD.out j
    by_cases hlt : j < m.length
    · obtain ⟨k, hkj⟩ : ∃ k, ks[j]? = some k := ⟨ks[j]'(by omega), List.getElem?_eq_getElem (by omega)⟩
      obtain ⟨g, c', hA, hge, hcell⟩ := GB.out j k hkj
      injection hA with hA1 hA2 hA3
      subst hA1 hA3
      have hkb := HK.out k (List.mem_of_getElem? hkj)
      obtain ⟨k0, k1⟩ := hkb
      have hs := HC.out j k hkj
      have hcw := cell_keeps (HI.out.keep _ _ _ KP.out hi) hcell (fun hm => by have := HI.out.old _ hm; simp at this; omega)
      have hI2 := fun d w' (h : I w2 d w') (hd : d.length ≤ 16384) f t => HI.out.step w2 d w' f t KP.out h hd
      generalize runFold (ks.take j) = st at *
      obtain ⟨f, l, d⟩ := st
      simp only at b1 b2 b3 b4 b5 hi
      have RS := Lib.hid hs
      have HI0 := Lib.hid hi
      have HI2 := Lib.hid hI2
      clear hs hi hI2 hcell hkj
      by_cases hf : 0 ≤ f
      · by_cases hkl : k = l + 1
        · subst hkl
          have hfin : runFold (ks.take (j + 1)) = (f, l + 1, d) := by rw [RS.out]; unfold runStep; simp only; rw [if_neg (by simp), if_neg (by omega)]
          have FF := Lib.hid hfin
          clear hfin
          go_wp2_with fail
          go_roundw
          case rel => exact ⟨j + 1, by simp, by rw [FF.out], by rw [FF.out], by omega, by rw [FF.out]; exact HI0.out⟩
          case measure => simp [intOf]; omega
        · have hfin : runFold (ks.take (j + 1)) = (k, k, d ++ [(f, l + 1)]) := by rw [RS.out]; unfold runStep; simp only; rw [if_pos ⟨hf, hkl⟩]
          have FF := Lib.hid hfin
          have hne : (k == l + 1) = false := by simpa using hkl
          clear hfin hkl
          go_wp2_with fail
          refine (HI2.out d _ HI0.out (by omega) f (l + 1) hf b2 (by omega) (by omega)).mono ?_
          rintro e w3 ⟨rfl, hi3⟩
          have HI3 := Lib.hid hi3
          clear hi3
          go_wp2_with fail
          go_roundw
          case rel => exact ⟨j + 1, by simp, by rw [FF.out], by rw [FF.out], by omega, by rw [FF.out]; exact HI3.out⟩
          case measure => simp [intOf]; omega
      · have hf1 : f < 0 := by omega
        have hfin : runFold (ks.take (j + 1)) = (k, k, d) := by rw [RS.out]; unfold runStep; simp only; rw [if_neg (by omega), if_pos hf1]
        have FF := Lib.hid hfin
        clear hfin hf
        go_wp2_with fail
        go_roundw
        case rel => exact ⟨j + 1, by simp, by rw [FF.out], by rw [FF.out], by omega, by rw [FF.out]; exact HI0.out⟩
        case measure => simp [intOf]; omega
    · obtain rfl : j = m.length := by omega
      have hI2 := fun d w' (h : I w2 d w') (hd : d.length ≤ 16384) f t => HI.out.step w2 d w' f t KP.out h hd
      generalize runFold (ks.take m.length) = st at *
      obtain ⟨f, l, d⟩ := st
      simp only at b1 b2 b3 b4 b5 hi
      have HI0 := Lib.hid hi
      have HI2 := Lib.hid hI2
      clear hi hI2
      by_cases hf : 0 ≤ f
      · have hfin : runEnd (f, l, d) = d ++ [(f, l + 1)] := by unfold runEnd; simp only; rw [if_pos hf]
        have FE := Lib.hid hfin
        clear hfin
        go_wp2_with fail
        refine (HI2.out d _ HI0.out (by omega) f (l + 1) hf b2 (by omega) (by omega)).mono ?_
        rintro e w3 ⟨rfl, hi3⟩
        go_wp2_with fail
        go_end0
        exact ⟨rfl, w2, KP.out, by rw [HE.out, FE.out]; exact hi3⟩
      · have hfin : runEnd (f, l, d) = d := by unfold runEnd; simp only; rw [if_neg hf]
        have FE := Lib.hid hfin
        have hf1 : f < 0 := by omega
        clear hfin hf
        go_wp2_with fail
        go_end0
        exact ⟨rfl, w2, KP.out, by rw [HE.out, FE.out]; exact HI0.out⟩

end Go.Proofs.YtakgohocimlagaaGreat
