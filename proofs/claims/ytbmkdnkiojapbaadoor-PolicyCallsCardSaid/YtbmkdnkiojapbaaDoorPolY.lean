/-
  The iterator of a table's rules (maps.Values): they come, each once, in some order. Condition: no name twice, no name long.
-/
import Derived.Test.YtbmkdnkiojapbaaDoorPolX
import Derived.Shelf.SlLaysY
import Derived.Shelf.AbstractIn
import Derived.RangeFuncMany
import Derived.RangeFuncLeaves
import Derived.Sort.MapsRangeIn
import Derived.Sort.KeysCollected
import Derived.RegionIn
import Derived.Maps.AppendAt
namespace Go.Proofs.YtbmkdnkiojapbaaDoor
open Go.RowKit Go.Maps Go.Sort Go.Shelf
open Go.WideElems (Fit rd rg rd_mk rg_of)
open Go.ChangeMaps Go.MapKept
set_option linter.unusedVariables false
set_option linter.unusedSimpArgs false

def heldR : Value → Option (DataW Value × List MemPlace) := fun v => some (.held v, [])
theorem vinsert_perm {H : Type} (x : Lit × DataW H) : ∀ l, (DataW.insert x l).Perm (x :: l)
  | [] => List.Perm.refl _
  | y :: r => by
    simp only [DataW.insert]
    split
    · exact List.Perm.refl _
    · exact ((vinsert_perm x r).cons y).trans (List.Perm.swap x y r)
theorem vfoldr_perm {H : Type} : ∀ l : List (Lit × DataW H), (l.foldr DataW.insert []).Perm l
  | [] => List.Perm.refl _
  | x :: r => by
    rw [List.foldr_cons]
    exact (vinsert_perm x _).trans ((vfoldr_perm r).cons x)
def litOf (x : ByteArray × PR) : Lit × DataW Value := (.string x.1.data.toList, .held (encPR x.2))
theorem skey_of {P : Program} {k : TypeId} (hk : P.underlying k = some .string) {s : ByteArray} (hs : s.size ≤ 1000) : keyOf P k (.string s) = some (.string s.data.toList) := by
  have h1 : s.size ≤ maxLen := by simp only [maxLen]; omega
  simp [keyOf, hk, mapKey, h1]
theorem srg_keys {P : Program} {k : TypeId} (hk : P.underlying k = some .string) : ∀ {Es : List MapEntry} {T : List (ByteArray × PR)}, Es.map (fun e => (e.key, e.val)) = T.map (fun x => (Value.string x.1, encPR x.2)) → (∀ x ∈ T, x.1.size ≤ 1000) → Es.map (rg P k heldR) = T.map litOf ∧ ∀ x ∈ Es, ∃ y, rd P k heldR x = some y
  | [], T, h, hw => by cases T <;> simp at h ⊢
  | ⟨K, V, b⟩ :: Es, [], h, hw => by simp at h
  | ⟨K, V, b⟩ :: Es, x :: T, h, hw => by
    simp only [List.map_cons, List.cons.injEq, Prod.mk.injEq] at h
    obtain ⟨⟨rfl, rfl⟩, h⟩ := h
    obtain ⟨h1, h2⟩ := srg_keys hk h (fun c hc => hw c (List.mem_cons_of_mem _ hc))
    have hr : rd P k heldR ⟨.string x.1, encPR x.2, b⟩ = some (litOf x) := rd_mk (skey_of hk (hw x (List.mem_cons_self ..))) (yv := (.held (encPR x.2), [])) rfl
    refine ⟨?_, fun y hy => ?_⟩
    · simp only [List.map_cons, rg_of hr, h1]
    · rcases List.mem_cons.1 hy with rfl | hy
      · exact ⟨_, hr⟩
      · exact h2 y hy
/-- the table as the kit's map -/
theorem owns_table {w : World} {mb : Nat} {T : List (ByteArray × PR)} (h : SMapAt w mb encPR T) (hn : (SL.keys T).Nodup) (hs : ∀ x ∈ T, x.1.size ≤ 1000) (hl : T.length ≤ 100000) :
    w.ownsMap Tryd.prog 9 heldR mb T.length (.map ((T.map litOf).foldr DataW.insert [])) := by
  obtain ⟨es, ck, h1, h2, h3⟩ := h
  obtain ⟨hr1, hr2⟩ := srg_keys Tryd.underlying9 h2 hs
  have hlen : es.size = T.length := by simpa using congrArg List.length h2
  have hkn : (es.toList.map (·.key)).Nodup := by
    have e : es.toList.map (·.key) = T.map fun x => Value.string x.1 := by
      have := congrArg (List.map Prod.fst) h2
      simp only [List.map_map] at this
      exact this
    rw [e]
    exact List.pairwise_map.2 ((List.pairwise_map.1 hn).imp fun h e => h (by injection e))
  refine ⟨es, ck, h1, ⟨by simp only [maxLen]; rw [hlen]; omega, ⟨h3.2, h3.1, hkn⟩, hr2⟩, by rw [hlen]; exact Nat.le_refl _, ?_⟩
  rw [hr1]
theorem dat_mem {T : List (ByteArray × PR)} {x : List UInt8} {c : Value} (h : ∀ zd, (DataW.map ((T.map litOf).foldr DataW.insert [])).atKey (.string x) zd = .held c) : ∃ r, (⟨x.toArray⟩, r) ∈ T ∧ c = encPR r := by
  have h1 := h .nil
  simp only [DataW.atKey] at h1
  split at h1
  · rename_i p hp
    have hm := List.mem_of_find?_eq_some hp
    have hk := List.find?_some hp
    rw [(vfoldr_perm _).mem_iff] at hm
    obtain ⟨y, hy, rfl⟩ := List.mem_map.1 hm
    simp only [litOf] at hk h1
    injection h1 with h1
    have e : y.1.data.toList = x := by simpa [Lit.sameKey] using hk
    refine ⟨y.2, ?_, h1.symm⟩
    have : (⟨x.toArray⟩ : ByteArray) = y.1 := by rw [← e]
    rw [this]
    exact hy
  · cases h1
theorem encPR_inj {x y : PR} (h : encPR x = encPR y) : x = y := by
  obtain ⟨a, b, c, d⟩ := x
  obtain ⟨a', b', c', d'⟩ := y
  simp [encPR] at h
  obtain ⟨rfl, rfl, rfl, rfl⟩ := h
  rfl
end Go.Proofs.YtbmkdnkiojapbaaDoor
