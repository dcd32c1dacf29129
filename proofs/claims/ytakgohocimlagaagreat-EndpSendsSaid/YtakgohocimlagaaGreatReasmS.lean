/-
  The walks of package reasm (4): the sorted keys of a map. Condition: keys are ints of their kind, no two alike.
-/
import Derived.Test.YtakgohocimlagaaGreatReasmT
import Derived.Test.YtakgohocimlagaaGreatReasmL
namespace Go.Proofs.YtakgohocimlagaaGreat
open Go.RowKit Go.Maps Go.Sort Go.Shelf
open Go.WideElems (Fit rd rg rd_mk rg_of)
open Go.ChangeMaps Go.MapKept
set_option linter.unusedVariables false
set_option linter.unusedSimpArgs false

/-- a map's keys, rising -/
def keysS (m : List (Int × UInt8)) : List Int := (AL.keys m).mergeSort (fun x y => decide (x ≤ y))
theorem keysS_perm (m : List (Int × UInt8)) : (keysS m).Perm (AL.keys m) := List.mergeSort_perm _ _
theorem mergeSort_of_perm {ss ks : List Int} (hp : ss.Perm ks) : ss.mergeSort (fun x y => decide (x ≤ y)) = ks.mergeSort (fun x y => decide (x ≤ y)) := by
  have tr : ∀ a b c : Int, leI a b = true → leI b c = true → leI a c = true := fun a b c h1 h2 => by simp only [leI, decide_eq_true_eq] at *; exact Int.le_trans h1 h2
  have tot : ∀ a b : Int, (leI a b || leI b a) = true := fun a b => by simp only [leI, Bool.or_eq_true, decide_eq_true_eq]; exact Int.le_total a b
  refine List.Perm.eq_of_pairwise (le := fun a b => leI a b = true) (fun a b _ _ h1 h2 => ?_) (List.pairwise_mergeSort tr tot ss) (List.pairwise_mergeSort tr tot ks) (((List.mergeSort_perm ss leI).trans hp).trans (List.mergeSort_perm ks leI).symm)
  simp only [leI, decide_eq_true_eq] at h1 h2
  exact Int.le_antisymm h1 h2
theorem keysS_sorted {m : List (Int × UInt8)} (hn : (AL.keys m).Nodup) : (keysS m).Pairwise (· < ·) := by
  have tr : ∀ a b c : Int, leI a b = true → leI b c = true → leI a c = true := fun a b c h1 h2 => by simp only [leI, decide_eq_true_eq] at *; exact Int.le_trans h1 h2
  have tot : ∀ a b : Int, (leI a b || leI b a) = true := fun a b => by simp only [leI, Bool.or_eq_true, decide_eq_true_eq]; exact Int.le_total a b
  have h1 : (keysS m).Pairwise (fun a b => leI a b = true) := List.pairwise_mergeSort tr tot (AL.keys m)
  have h2 : (keysS m).Nodup := (keysS_perm m).nodup_iff.2 hn
  refine (h1.and h2).imp fun h => ?_
  obtain ⟨h3, h4⟩ := h
  simp only [leI, decide_eq_true_eq] at h3
  omega

set_option maxHeartbeats 400000 in
theorem keysF_any (w : World) (mb : Nat) :
    Calls Tryz.prog 101 #[.map (some mb)] w fun e w' => e = .returned (.func (.func 106) #[] #[.pointer (some ⟨w.heap.size, 0, none⟩)]) ∧ w'.cell? ⟨w.heap.size, 0, none⟩ = some (.map (some mb)) ∧ Keeps [] w w' ∧ w'.heap.size = w.heap.size + 1 := by
  have F := Lib.hid (show (w.alloc (.cells #[.map (some mb)] 92)).cell? ⟨w.heap.size, 0, none⟩ = some (.map (some mb)) from cell_of_block (MapKept.heap_alloc w (.cells #[.map (some mb)] 92)).1 0)
  go_enter Tryz.func101, Tryz.ntmps101
  go_wp2
  go_ret
  exact ⟨rfl, F.out, Keeps.alloc _ _ _, by simp⟩

theorem mapAt_born {w : World} {mb : Nat} {m : List (Int × UInt8)} (h : MapAt w mb .i64 u8V m) (hn : (AL.keys m).Nodup) (hk : ∀ k ∈ AL.keys m, 0 ≤ k ∧ k < 16384) :
    ∃ es clock, w.heap[mb]? = some (.map es clock) ∧ es.toList.map (·.key) = (AL.keys m).map encZ ∧ (∀ x ∈ es.toList, x.born < clock) ∧ (es.toList.map (·.born)).Nodup ∧ es.size = m.length := by
  obtain ⟨es, ck, h1, h2, h3⟩ := h
  refine ⟨es, ck, h1, ?_, h3.2, h3.1, by simpa using congrArg List.length h2⟩
  have := congrArg (List.map Prod.fst) h2
  simp only [List.map_map] at this
  simp only [AL.keys, List.map_map]
  exact this

theorem nodup_len : ∀ (n : Nat) {l : List Int}, l.Nodup → (∀ k ∈ l, 0 ≤ k ∧ k < n) → l.length ≤ n
  | 0, l, _, h => by
    cases l with
    | nil => simp
    | cons x r => have := h x (by simp); omega
  | n + 1, l, hn, h => by
    have h1 := nodup_len n (hn.erase (n : Int)) (fun k hk => by
      obtain ⟨h2, h3⟩ := (List.Nodup.mem_erase_iff hn).1 hk
      have := h k h3
      omega)
    rw [List.length_erase] at h1
    split at h1 <;> omega
theorem keys_len {m : List (Int × UInt8)} (hn : (AL.keys m).Nodup) (hk : ∀ k ∈ AL.keys m, 0 ≤ k ∧ k < 16384) : m.length ≤ 16384 := by
  have h1 : (AL.keys m).length = m.length := by simp [AL.keys]
  have := nodup_len 16384 hn hk
  omega

/-- slices.Sorted over maps.Keys. -/
theorem sorted_m {w : World} {mb c : Nat} {m : List (Int × UInt8)} (h : MapAt w mb .i64 u8V m) (hn : (AL.keys m).Nodup) (hk : ∀ k ∈ AL.keys m, 0 ≤ k ∧ k < 16384) (hc : w.cell? ⟨c, 0, none⟩ = some (.map (some mb))) :
    Calls Tryz.prog 100 #[.func (.func 106) #[] #[.pointer (some ⟨c, 0, none⟩)]] w fun e w' => ∃ v, e = .returned v ∧ w'.ownsRow w.heap.size 3 1 v m.length ((keysS m).map encZ) ∧ Keeps [] w w' := by
  obtain ⟨es, ck, h1, h2, h3, h4, h5⟩ := mapAt_born h hn hk
  have hlen := keys_len hn hk
  have hwf : ∀ a ∈ AL.keys m, (Lit.int .i64 a).wf = true := fun a ha => by
    have := hk a ha
    have e1 : IntKind.i64.min ≤ a := by have : IntKind.i64.min = -9223372036854775808 := by decide
                                        omega
    have e2 : a ≤ IntKind.i64.max := by have : IntKind.i64.max = 9223372036854775807 := by decide
                                        omega
    simp only [Lit.wf, Bool.and_eq_true, decide_eq_true_eq]
    exact ⟨e1, e2⟩
  letI : Inhabited Ev.EnvT := Ev.noE
  obtain ⟨hr1, hr2⟩ := Ev.rg_keys (k := 3) (P := Tryz.prog) Tryz.underlying3 h2 hwf
  have hkn : (es.toList.map (·.key)).Nodup := by
    rw [h2]
    exact List.pairwise_map.2 (hn.imp fun h e => h (encZ_inj e))
  have hmax : es.size ≤ maxLen := by rw [h5]; simp only [maxLen]; omega
  have hown : w.ownsMap Tryz.prog 3 Ev.noR mb es.size (.map ((es.toList.map (rg Tryz.prog 3 Ev.noR)).foldr DataW.insert [])) :=
    ⟨es, ck, h1, ⟨by simpa using hmax, ⟨h3, h4, hkn⟩, hr2⟩, by simp, rfl⟩
  generalize hD : (DataW.map ((es.toList.map (rg Tryz.prog 3 Ev.noR)).foldr DataW.insert []) : DataW Unit) = D0 at hown
  have hperm : (intKeys D0).Perm (AL.keys m) := by
    rw [← hD]
    simp only [intKeys]
    have := (Ev.foldr_insert_perm (es.toList.map (rg Tryz.prog 3 Ev.noR))).map fun p => Go.intOf p.1
    rw [hr1] at this
    exact this
  have hsize : Maps.size D0 ≤ 1000000 := by
    have h6 : (intKeys D0).length = (AL.keys m).length := hperm.length_eq
    have h7 : (AL.keys m).length = m.length := by simp [AL.keys]
    rw [← hD] at h6 ⊢
    simp only [intKeys, List.length_map] at h6
    simp only [Maps.size]
    omega
  have hseq : SeqGives Fence.wide 2 Tryz.prog 106 #[.pointer (some ⟨c, 0, none⟩)] encZ (fun ss => ss.Perm (intKeys D0)) (Maps.size D0) w :=
    AnyZI.keys_gives (ρ := Tryz.keysL_ren) Tryz.keysL Fence.wide _ trivial rfl (by omega) c mb es.size D0 w (lt_of_cell hc) hc hown
  have hC := AnyZI.sorted_in Tryz.sortedL Fence.wide 5 trivial trivial trivial trivial rfl (by omega) (sorts _) (enters_of Tryz.func105 (by kernel_rfl) rfl) 106 #[.pointer (some ⟨c, 0, none⟩)] trivial (enters_of Tryz.func106 (by kernel_rfl) rfl) _ _ (Nat.le_trans hsize (by decide)) (by omega) w hseq
  refine (callsIn_wide.1 hC).mono fun e' w' ⟨V, ss, h6, hS', hrow, hnil, hbl⟩ => ⟨V, h6, ?_, Below.keeps hbl⟩
  have hl : ss.length = m.length := by
    have := (hS'.trans hperm).length_eq
    rw [this]; simp [AL.keys]
  rw [mergeSort_of_perm (hS'.trans hperm), hl] at hrow
  exact hrow
end Go.Proofs.YtakgohocimlagaaGreat
