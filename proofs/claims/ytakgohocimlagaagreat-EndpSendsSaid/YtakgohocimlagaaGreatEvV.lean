/-
  An evaluator over plain data (22): contracts of maps.Clone and of slices.Sorted over maps.Keys, out of the kit's shelf; a law without arguments, evaluated with contracts. Of no program. No condition.
-/
import Derived.Test.YtakgohocimlagaaGreatEvU
import Derived.Shelf.SlMaps.Clone
import Derived.Shelf.SlIterI.Sorted
import Derived.Shelf.SlIterI.Nil
namespace Go.Proofs.YtakgohocimlagaaGreat
namespace Ev
variable [E : Inhabited EnvT]
set_option linter.unusedVariables false
set_option linter.unusedSectionVars false
set_option linter.unusedSimpArgs false
open Go.RowKit Go.Maps Go.Sort Go.Shelf
open Go.WideElems (Fit rd rg rd_mk rg_of)
open Go.ChangeMaps Go.MapKept

theorem Step.fresh {ρ : Mp} {m : Mem} {n : Nat} {w w' : World} (hs : Sim ρ m w) (hn : ρ n = none) (hb : Below w.heap.size w w') {gb tot : Nat} {x : Obj} {o : AO} (hge : w.heap.size ≤ gb) (hx : w'.heap[gb]? = some x) (ho : o ≠ .dead)
    (hr : Rel ρ o ⟨gb, 0, tot⟩ x) (m' : Mem) (hm' : ∀ i, m' i = m.put n ⟨o, n, true⟩ i) : Step ρ m n w (ρ.put n ⟨gb, 0, tot⟩) m' (n + 1) w' := by
  obtain rfl : m' = m.put n ⟨o, n, true⟩ := funext hm'
  have hgl : gb < w'.heap.size := by
    rcases Nat.lt_or_ge gb w'.heap.size with h | h
    · exact h
    · rw [Array.getElem?_eq_none h] at hx; cases hx
  have hE := Mp.put_ext (e := ⟨gb, 0, tot⟩) hn
  have hlive : ∀ i, i ≠ n → live (m.put n ⟨o, n, true⟩) i → live m i := fun i hi hl s hs' => hl s (by simp [Mem.put, hi, hs'])
  constructor
  · exact hE
  · intro id e he
    unfold Mp.put at he; split at he
    · rename_i hi; subst hi; exact .inr ⟨Nat.le_refl _, Nat.lt_succ_self _⟩
    · exact .inl he
  · constructor
    · intro id e s he hms
      by_cases hi : id = n
      · subst hi
        simp [Mp.put] at he; simp [Mem.put] at hms; subst he; subst hms
        exact ⟨x, hx, hr.ext hE⟩
      · simp [Mp.put, hi] at he; simp [Mem.put, hi] at hms
        obtain ⟨y, hy, hry⟩ := hs.rel id e s he hms
        exact ⟨y, by rw [hb.block _ (hs.lt id e he), hy], hry.ext hE⟩
    · intro id id' e e' he he' hne hl hl'
      by_cases hi : id = n
      · subst hi
        simp [Mp.put] at he; subst he
        have hi' : id' ≠ id := fun h => hne h.symm
        simp [Mp.put, hi'] at he'
        have := hs.lt id' e' he'
        simp; omega
      · simp [Mp.put, hi] at he
        by_cases hi' : id' = n
        · subst hi'
          simp [Mp.put] at he'; subst he'
          have := hs.lt id e he
          simp; omega
        · simp [Mp.put, hi'] at he'
          exact hs.inj id id' e e' he he' hne (hlive _ hi hl) (hlive _ hi' hl')
    · intro id e he
      by_cases hi : id = n
      · subst hi; simp [Mp.put] at he; subst he; exact hgl
      · simp [Mp.put, hi] at he
        exact Nat.lt_of_lt_of_le (hs.lt id e he) hb.size
    · intro b h
      rw [hb.block _ (Nat.lt_of_lt_of_le h hs.sz)]; exact hs.old b h
    · exact Nat.le_trans hs.sz hb.size
    · intro id e s he hms hmu hd
      by_cases hi : id = n
      · subst hi; simp [Mp.put] at he; subst he; exact Nat.le_trans hs.sz hge
      · simp [Mp.put, hi] at he; simp [Mem.put, hi] at hms
        exact hs.hi id e s he hms hmu hd
  · exact hb.size
  · intro b hb' _
    exact hb.block b hb'
  · intro b hb' ⟨id, e, s, he, heb, hms, hmu, hd⟩
    by_cases hi : id = n
    · subst hi; simp [Mp.put] at he; subst he; simp at heb; omega
    · simp [Mp.put, hi] at he; simp [Mem.put, hi] at hms
      exact ⟨id, e, s, he, heb, hms, hmu, hd⟩
  · intro id hid hr'
    have hi : id ≠ n := by omega
    simp [Mem.put, hi]
  · omega
  · exact ⟨hb.os, hb.tape, hb.output⟩

variable {P : Program} {G : Nat → Option Nat}
/-- MAPS.CLONE. -/
theorem clone_good {ρs : Ren} (L : SlLaysW.n5 P ρs) {f : FuncId} (hf : f = ρs.f 5) (he : ∀ args w, (callFunc f args).run P w = .ok (.enter f args) w) : XGood P G f .clone := by
  intro vs s v s' h hok ρ Vs w hG hR hS hF hB
  refine ⟨fun w => he _ w, ?_⟩
  unfold execX at h
  split at h
  · rename_i id _ hk
    cases hR with
    | cons hv hr =>
      cases hr
      cases hv with
      | map hid =>
        rename_i e
        split at h <;> cases h
        rename_i es cl st mu hm
        obtain ⟨x, hx, Es, rfl, hEs⟩ := hS.rel _ _ _ hid hm
        have hn : ρ s.n = none := hF s.n (Nat.le_refl _) (Nat.lt_succ_self s.n)
        rw [hf]
        refine (AnyW.maps_Clone L e.blk ⟨Es⟩ cl w hx).mono fun e' w' ⟨h1, h2⟩ => ⟨_, h1, ρ.put s.n ⟨w.heap.size, 0, 0⟩, .map (e := ⟨w.heap.size, 0, 0⟩) (by simp [Mp.put]), ?_⟩
        rw [h2]
        exact Step.alloc hS hn (.map ⟨Es⟩ cl) (.map es cl) 0 (by simp) ⟨Es, rfl, hEs⟩ _ (fun i => T.get_set _ _ _ _)
  · cases hR with
    | cons hv hr =>
      cases hr
      cases hv
      cases h
      rw [hf]
      refine (AnyW.maps_Clone_nil L w).mono fun e' w' ⟨h1, h2⟩ => ⟨_, h1, ρ, .nilm, ?_⟩
      rw [h2]
      exact Step.refl hS
  all_goals first | contradiction | (cases h; done)

/-! ### sorted keys -/
theorem leZ_eq (x y : Int) : leZ x y = decide (x ≤ y) := by
  cases x <;> cases y <;> simp only [leZ, Fa.nl] <;> rw [Bool.eq_iff_iff] <;> simp <;> omega
theorem insI_perm (x : Int) : ∀ l : List Int, (insI x l).Perm (x :: l)
  | [] => List.Perm.refl _
  | y :: r => by
    simp only [insI]
    cases leZ x y
    · exact ((insI_perm x r).cons y).trans (List.Perm.swap x y r)
    · exact List.Perm.refl _
theorem sortI_perm : ∀ l : List Int, (sortI l).Perm l
  | [] => List.Perm.refl _
  | x :: r => (insI_perm x _).trans ((sortI_perm r).cons x)
theorem risI_pw : ∀ l : List Int, risI l = true → l.Pairwise (· < ·)
  | [], _ => List.Pairwise.nil
  | [x], _ => by simp
  | x :: y :: r, h => by
    unfold risI at h
    simp only [Bool.and_eq_true, Bool.not_eq_true', leZ_eq, decide_eq_false_iff_not] at h
    have ih := risI_pw (y :: r) h.2
    refine List.Pairwise.cons (fun z hz => ?_) ih
    rcases List.mem_cons.1 hz with rfl | hz
    · omega
    · have := (List.pairwise_cons.1 ih).1 z hz
      omega
theorem sort_eq {ks ss : List Int} (hr : risI (sortI ks) = true) (hp : ss.Perm ks) : ss.mergeSort (fun x y => decide (x ≤ y)) = sortI ks := by
  have tr : ∀ a b c : Int, leI a b = true → leI b c = true → leI a c = true := fun a b c h1 h2 => by simp only [leI, decide_eq_true_eq] at *; exact Int.le_trans h1 h2
  have to : ∀ a b : Int, (leI a b || leI b a) = true := fun a b => by simp only [leI, Bool.or_eq_true, decide_eq_true_eq]; exact Int.le_total a b
  refine List.Perm.eq_of_pairwise (le := fun a b => leI a b = true) (fun a b _ _ h1 h2 => ?_) (List.pairwise_mergeSort tr to ss) ((risI_pw _ hr).imp fun h => by simp only [leI, decide_eq_true_eq]; omega) (((List.mergeSort_perm ss leI).trans hp).trans (sortI_perm ks).symm)
  simp only [leI, decide_eq_true_eq] at h1 h2
  exact Int.le_antisymm h1 h2
theorem keysI_keys {ρ : Mp} : ∀ {es : List (AV × AV × Nat)} {ks : List Int} {Es : List MapEntry}, keysI es = some ks → REs ρ es Es → Es.map (·.key) = ks.map encZ ∧ (∀ a ∈ ks, (Lit.int .i64 a).wf = true) ∧ Es.length = es.length
  | [], ks, Es, h, hR => by cases hR; cases h; simp
  | (x, v, b) :: r, ks, Es, h, hR => by
    cases hR with
    | cons hk hv hs =>
      simp only [keysI] at h
      split at h <;> (try (cases h; done))
      split at h <;> (try (cases h; done))
      rename_i l hl
      split at h <;> cases h
      rename_i hw
      cases hk
      obtain ⟨h1, h2, h3⟩ := keysI_keys hl hs
      refine ⟨by simp [h1], ?_, by simp [h3]⟩
      intro a ha
      rcases List.mem_cons.1 ha with rfl | ha
      · exact hw
      · exact h2 a ha
theorem memB_not {ρ : Mp} {b : Nat} : ∀ {es : List (AV × AV × Nat)} {Es : List MapEntry}, memB b es = false → REs ρ es Es → b ∉ Es.map (·.born)
  | [], Es, h, hR => by cases hR; simp
  | (x, v, c) :: r, Es, h, hR => by
    cases hR with
    | cons hk hv hs =>
      simp only [memB, Bool.or_eq_false_iff] at h
      have := memB_not h.2 hs
      simp only [List.map_cons, List.mem_cons, not_or]
      exact ⟨Nat.ne_of_beq_eq_false h.1, this⟩
theorem okSt_born {ρ : Mp} {cl : Nat} : ∀ {es : List (AV × AV × Nat)} {Es : List MapEntry}, okSt cl es = true → REs ρ es Es → (∀ x ∈ Es, x.born < cl) ∧ (Es.map (·.born)).Nodup
  | [], Es, h, hR => by cases hR; simp
  | (x, v, b) :: r, Es, h, hR => by
    cases hR with
    | cons hk hv hs =>
      simp only [okSt, Bool.and_eq_true, Bool.not_eq_true'] at h
      obtain ⟨h1, h2⟩ := okSt_born h.2 hs
      refine ⟨fun y hy => ?_, ?_⟩
      · rcases List.mem_cons.1 hy with rfl | hy
        · exact Nat.le_of_ble_eq_true h.1.1
        · exact h1 y hy
      · rw [List.map_cons, List.nodup_cons]
        exact ⟨memB_not h.1.2 hs, h2⟩
theorem insert_perm {H : Type} (x : Lit × DataW H) : ∀ l, (DataW.insert x l).Perm (x :: l)
  | [] => List.Perm.refl _
  | y :: r => by
    simp only [DataW.insert]
    split
    · exact List.Perm.refl _
    · exact ((insert_perm x r).cons y).trans (List.Perm.swap x y r)
theorem foldr_insert_perm {H : Type} : ∀ l : List (Lit × DataW H), (l.foldr DataW.insert []).Perm l
  | [] => List.Perm.refl _
  | x :: r => by
    rw [List.foldr_cons]
    exact (insert_perm x _).trans ((foldr_insert_perm r).cons x)
def noR : Value → Option (DataW Unit × List MemPlace) := fun _ => some (.nil, [])
theorem key_of {k : TypeId} (hk : P.underlying k = some (.int .i64)) {a : Int} (hw : (Lit.int .i64 a).wf = true) : keyOf P k (encZ a) = some (.int .i64 a) := by
  simp [keyOf, hk, mapKey, encZ, hw]
theorem rg_keys {k : TypeId} (hk : P.underlying k = some (.int .i64)) : ∀ {Es : List MapEntry} {ks : List Int}, Es.map (·.key) = ks.map encZ → (∀ a ∈ ks, (Lit.int .i64 a).wf = true) → (Es.map (rg P k noR)).map (fun p => intOf p.1) = ks ∧ ∀ x ∈ Es, ∃ y, rd P k noR x = some y
  | [], ks, h, hw => by cases ks <;> simp at h ⊢
  | ⟨K, V, b⟩ :: Es, [], h, hw => by simp at h
  | ⟨K, V, b⟩ :: Es, a :: ks, h, hw => by
    simp only [List.map_cons, List.cons.injEq] at h
    obtain ⟨rfl, h⟩ := h
    obtain ⟨h1, h2⟩ := rg_keys hk h (fun c hc => hw c (List.mem_cons_of_mem _ hc))
    have hr : rd P k noR ⟨encZ a, V, b⟩ = some (.int .i64 a, .nil) := rd_mk (key_of hk (hw a (List.mem_cons_self ..))) (yv := (.nil, [])) rfl
    refine ⟨?_, fun x hx => ?_⟩
    · simp only [List.map_cons, rg_of hr, h1]; rfl
    · rcases List.mem_cons.1 hx with rfl | hx
      · exact ⟨_, hr⟩
      · exact h2 x hx

theorem cell_map {ρ : Mp} {w : World} {cs : List AV} {e : Ent} {x : Obj} {id : Nat} (hrel : Rel ρ (.row cs false) e x) (hx : w.heap[e.blk]? = some x) (hc : cs = [.map id]) : ∃ em, ρ id = some em ∧ e.dl = 0 ∧ w.cell? ⟨e.blk, 0, none⟩ = some (.map (some em.blk)) := by
  subst hc
  obtain ⟨c, el, fz, Cs, rfl, hRs, hcell, hsz, hle, hext, hfz⟩ := hrel
  obtain ⟨_, hdl⟩ := hext rfl
  cases hRs with
  | cons hv hs =>
    cases hv with
    | map hid =>
      rename_i em
      refine ⟨em, hid, hdl, ?_⟩
      have h0 := hcell 0 (by simp)
      rw [hdl] at h0
      simp only [World.cell?, hx]
      simpa using h0

/-- SLICES.SORTED OVER MAPS.KEYS, at keys that are ints. -/
theorem sorted_good {ρs ρk : Ren} (L : SlLaysZI.n6 P ρs) (K : SlLaysZI.n10 P ρk) {f g : FuncId} (hf : f = ρs.f 6) (hg : g = ρk.f 10) (hsort : ∀ m, AnyZI.SortsIn P ρs Fence.wide m)
    (e6 : ∀ args w, (callFunc f args).run P w = .ok (.enter f args) w) (e9 : ∀ args w, (callFunc (ρs.f 9) args).run P w = .ok (.enter (ρs.f 9) args) w) (eg : ∀ args w, (callFunc g args).run P w = .ok (.enter g args) w) : XGood P G f (.sorted g) := by
  intro vs s v s' h hok ρ Vs w hG hR hS hF hB
  refine ⟨fun w => e6 _ w, ?_⟩
  unfold execX at h
  split at h
  · contradiction
  · contradiction
  · contradiction
  · rename_i g0 g' c hk
    cases hk
    split at h <;> (try (cases h; done))
    rename_i cs st mu hgg hm
    have hgg := Nat.eq_of_beq_eq_true hgg
    subst hgg
    unfold sortC at h
    split at h <;> (try (cases h; done))
    rename_i id
    split at h <;> (try (cases h; done))
    rename_i es cl st' mu' hm'
    unfold sortX at h
    split at h <;> (try (cases h; done))
    rename_i ks hks
    split at h <;> (try (cases h; done))
    rename_i hchk
    simp only [Bool.and_eq_true] at hchk
    obtain ⟨⟨hst, hris⟩, hlen⟩ := hchk
    have hlen := Nat.le_of_ble_eq_true hlen
    cases hR with
    | cons hv hr =>
      cases hr
      cases hv with
      | fn _ hxs hys =>
        cases hxs
        cases hys with
        | cons hp hps =>
          cases hps
          cases hp with
          | ptr he =>
            rename_i e
            obtain ⟨x, hx, hrel⟩ := hS.rel _ _ _ he hm
            obtain ⟨em, hem, hdl, hcell⟩ := cell_map hrel hx rfl
            obtain ⟨xm, hxm, Es, rfl, hEs⟩ := hS.rel _ _ _ hem hm'
            obtain ⟨hk1, hk2, hk3⟩ := keysI_keys hks hEs
            obtain ⟨hr1, hr2⟩ := rg_keys (k := ρk.t 26) K.t26 hk1 hk2
            obtain ⟨hb1, hb2⟩ := okSt_born hst hEs
            have hnd : ks.Nodup := (sortI_perm ks).nodup_iff.1 ((risI_pw _ hris).imp fun h => by omega)
            have hkn : (Es.map (·.key)).Nodup := by
              rw [hk1]
              exact List.pairwise_map.2 (hnd.imp fun h e => h (encZ_inj e))
            have hmax : Es.length ≤ maxLen := by rw [hk3]; exact Nat.le_trans hlen (by decide)
            have hown : w.ownsMap P (ρk.t 26) noR em.blk Es.length (.map (((⟨Es⟩ : Array MapEntry).toList.map (rg P (ρk.t 26) noR)).foldr DataW.insert [])) :=
              ⟨⟨Es⟩, cl, hxm, ⟨by simpa using hmax, ⟨hb1, hb2, hkn⟩, hr2⟩, by simp, rfl⟩
            generalize hD : (DataW.map ((((⟨Es⟩ : Array MapEntry).toList).map (rg P (ρk.t 26) noR)).foldr DataW.insert []) : DataW Unit) = D0 at hown
            have hperm : (intKeys D0).Perm ks := by
              rw [← hD]
              simp only [intKeys]
              have := (foldr_insert_perm (Es.map (rg P (ρk.t 26) noR))).map fun p => intOf p.1
              rw [hr1] at this
              exact this
            have hsize : Maps.size D0 ≤ 1000000 := by
              have h1 : (intKeys D0).length = ks.length := hperm.length_eq
              have h2 : ks.length = es.length := by have := congrArg List.length hk1; simp at this; omega
              rw [← hD] at h1 ⊢
              simp only [intKeys, List.length_map] at h1
              simp only [Maps.size]
              omega
            have hseq : SeqGives Fence.wide 2 P g #[.pointer (some ⟨e.blk, 0, none⟩)] encZ (fun ss => ss.Perm (intKeys D0)) (Maps.size D0) w := by
              rw [hg]
              exact AnyZI.keys_gives (ρ := ρk) K Fence.wide _ trivial rfl (by omega) e.blk em.blk Es.length D0 w (hS.lt _ _ he) hcell hown
            have hC := AnyZI.sorted_in L Fence.wide 5 trivial trivial trivial trivial rfl (by omega) (hsort _) e9 g #[.pointer (some ⟨e.blk, 0, none⟩)] trivial eg _ _ (Nat.le_trans hsize (by decide)) (by omega) w hseq
            have hC := callsIn_wide.1 hC
            rw [← hf] at hC
            have hargs : (⟨[Value.func (.func g) ⟨[]⟩ ⟨[.pointer (some ⟨e.blk, e.dl + 0, none⟩)]⟩]⟩ : Array Value) = #[.func (.func g) #[] #[.pointer (some ⟨e.blk, 0, none⟩)]] := by rw [hdl]
            rw [hargs]
            refine hC.mono fun e' w' ⟨V, ss, h1, hS', hrow, hnil, hbl⟩ => ⟨V, h1, ?_⟩
            have hsrt := sort_eq hris (hS'.trans hperm)
            rw [hsrt] at hrow
            split at h
            · rename_i hs0
              cases h
              have hl : ss = [] := by
                have := (sortI_perm ks).length_eq
                rw [hs0] at this
                have h2 := (hS'.trans hperm).length_eq
                exact List.eq_nil_of_length_eq_zero (by simp at this; omega)
              rw [hnil.2 hl]
              exact ⟨ρ, .nils, Step.below hS hbl⟩
            · rename_i a r hs0
              rw [fL_eq] at h
              cases h
              have hsl : ss.length = (a :: r).length := by
                have h1 := (sortI_perm ks).length_eq
                have h2 := (hS'.trans hperm).length_eq
                rw [hs0] at h1
                omega
              have hn : ρ s.n = none := hF s.n (Nat.le_refl _) (Nat.lt_succ_self s.n)
              obtain ⟨hlen', hcase⟩ := hrow
              rcases hcase with ⟨_, hz⟩ | ⟨gb, cap, cur, rfl, hbase, hgb, r1, r2, r3, r4⟩
              · rw [hsl] at hz; simp at hz
              · rw [hs0] at r4
                refine ⟨ρ.put s.n ⟨gb, 0, cap⟩, ?_, Step.fresh hS hn hbl hbase hgb (by simp) ?_ _ (fun i => T.get_set _ _ _ _)⟩
                · have := R.sl (ρ := ρ.put s.n ⟨gb, 0, cap⟩) (id := s.n) (off := 0) (len := (a :: r).length) (cap := .rest 1) (e := ⟨gb, 0, cap⟩) (by simp [Mp.put]) (by simp only [ACap.of]; simp; simp at hsl; omega)
                  rw [hsl]
                  simpa [ACap.of] using this
                · refine ⟨cur, _, (0, 0), (a :: r).map encZ, rfl, ?_, fun i hi => ?_, (by simp; omega), (by simp at hsl ⊢; omega), (fun h => by cases h), .inl rfl⟩
                  · exact Rs_map fun i _ => .int _ _
                  · rw [← r4]
                    simp at hi hsl
                    simp
                    rw [List.getElem?_take]
                    rw [if_pos (by omega)]
                    simp
  all_goals first | contradiction | (cases h; done)

/-- contracts ahead of the program's own functions -/
theorem lawTrueX_calls {X : List (Nat × XK)} {n : Nat} {f : FuncId} (hX : ∀ f k, xlk X f = some k → XGood P noG f k) (h : lawSymX P X n f [] = True) (w : World) (ho : ∀ b, b < E.default.base → w.heap[b]? = E.default.h0 b) (hb : E.default.base ≤ w.heap.size) : Calls P f #[] w fun e w' => e = .returned (.bool true) ∧ Below w.heap.size w w' :=
  lawSymX_calls hX h .nil w ho hb
end Ev
end Go.Proofs.YtakgohocimlagaaGreat
