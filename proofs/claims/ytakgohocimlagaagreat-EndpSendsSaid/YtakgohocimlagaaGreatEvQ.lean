/-
  An evaluator over plain data (17): a region that draws its order: each step keeps what holds; the region as a whole. Of no program. No condition.
-/
import Derived.Test.YtakgohocimlagaaGreatEvP
namespace Go.Proofs.YtakgohocimlagaaGreat
namespace Ev
variable [E : Inhabited EnvT]
set_option linter.unusedVariables false
set_option linter.unusedSectionVars false
set_option linter.unusedSimpArgs false
open Go.RowKit Go.IntWalk

section
variable {P : Program} {G : Nat → Option Nat} {nt : Nat} {ops : Array Oper} {l : List ROp} {call : CallF} {sy : Bool} {sn : Nat → CS} {vv : Nat → AV}

theorem DR.mask (D : DR P G nt ops l call sy sn vv) {j : Nat} {o : ROp} {oper : Oper} (ho : l[j]? = some o) (hop : ops[j]? = some oper) :
    (∀ e ∈ oper.after.toList, binds e = true → e.on < j ∧ Nat.testBit o.pm e.on = true) ∧
    ∀ i, Nat.testBit o.pm i = true → ∃ e ∈ oper.after.toList, binds e = true ∧ e.on < j ∧ (i = e.on ∨ ∃ o', l[e.on]? = some o' ∧ Nat.testBit o'.pm i = true) := by
  have hj : j < l.length := by
    rcases Nat.lt_or_ge j l.length with h | h
    · exact h
    · rw [List.getElem?_eq_none h] at ho; cases ho
  obtain ⟨_, _, _, _, hm⟩ := D.hl.at_ j oper o hop ho
  obtain ⟨pms, hpm, hm⟩ := hm rfl
  obtain ⟨h1, h2⟩ := maskOf_bits hm
  have get : ∀ i p, pms.get i = some p → i < j ∧ ∃ o', l[i]? = some o' ∧ o'.pm = p := fun i p hp => by
    rw [hpm, List.getElem?_take] at hp
    split at hp
    · rename_i hlt
      cases ho' : l[i]? with
      | none => rw [ho'] at hp; cases hp
      | some o' => rw [ho'] at hp; simp only [Option.map_some, Option.some.injEq] at hp; exact ⟨hlt, o', rfl, hp⟩
    · cases hp
  refine ⟨fun e he hb => ?_, fun i hi => ?_⟩
  · obtain ⟨⟨p, hp⟩, h3⟩ := h1 e he hb
    exact ⟨(get _ _ hp).1, h3⟩
  obtain ⟨e, he, hb, p, hp, hor⟩ := h2 i hi
  obtain ⟨hlt, o', ho', rfl⟩ := get _ _ hp
  refine ⟨e, he, hb, hlt, ?_⟩
  rcases hor with h | h
  · exact .inl h
  · exact .inr ⟨o', ho', h⟩
theorem DR.bits (D : DR P G nt ops l call sy sn vv) : ∀ (j : Nat) {o : ROp}, l[j]? = some o → ∀ i, Nat.testBit o.pm i = true → i < j := by
  intro j
  induction j using Nat.strongRecOn with
  | _ j ih =>
    intro o ho i hi
    have hj : j < l.length := by
      rcases Nat.lt_or_ge j l.length with h | h
      · exact h
      · rw [List.getElem?_eq_none h] at ho; cases ho
    obtain ⟨o', oper, ho', hop⟩ := D.get hj
    rw [ho] at ho'; cases ho'
    obtain ⟨e, _, _, hlt, hor⟩ := (D.mask ho hop).2 i hi
    rcases hor with rfl | ⟨o', ho', hb⟩
    · exact hlt
    · have := ih e.on hlt ho' i hb
      omega
theorem DR.pair (D : DR P G nt ops l call sy sn vv) {i j : Nat} {x y : ROp} (h : i < j) (hx : l[i]? = some x) (hy : l[j]? = some y) :
    Nat.testBit y.pm i = true ∨ (¬ (isE x.op = true ∧ isE y.op = true) ∧ (∀ d, x.dst = some d → d ∉ readsO y ∧ y.dst ≠ some d) ∧ (∀ d, y.dst = some d → d ∉ readsO x)) :=
  pair_cases (by have := pairsAll_at D.pairs i j x y h hx hy; rwa [Nat.zero_add] at this)

variable {ρ0 : Mp} {w0 : World} {ds : List Deferred} {S : Nat → Prop} {q : Nat} {ρ : Mp} {M : Mem} {a : Act} {w : World}

/-- operation j may come now -/
structure Now (l : List ROp) (S : Nat → Prop) (j : Nat) (o : ROp) : Prop where
  at_ : l[j]? = some o
  not : ¬ S j
  pre : ∀ i, Nat.testBit o.pm i = true → S i

theorem Now.lt {j : Nat} {o : ROp} (N : Now l S j o) : j < l.length := by
  rcases Nat.lt_or_ge j l.length with h | h
  · exact h
  · have := N.at_; rw [List.getElem?_eq_none h] at this; cases this

/-- what it reads is what it read in the order of the text -/
theorem Inv.reads (D : DR P G nt ops l call sy sn vv) (I : Inv nt l sn vv ρ0 w0 ds S q ρ M a w) {j : Nat} {o : ROp} (N : Now l S j o) : RT ρ nt (someOf (sn j).tm (readsO o)) a := by
  refine ⟨I.tsize, fun t v hv => ?_⟩
  obtain ⟨ht, hv⟩ := someOf_get hv
  have hsnap := TV.snap D.tr j (Nat.le_of_lt N.lt) t v hv
  refine I.tval t v (hsnap.congr fun i x hx hd => ⟨fun hij => ?_, fun hS => ?_⟩)
  · rcases D.pair hij hx N.at_ with h | ⟨_, h, _⟩
    · exact N.pre i h
    · exact absurd ht (h t hd).1
  · rcases Nat.lt_trichotomy i j with h | h | h
    · exact h
    · subst h; exact absurd hS N.not
    · rcases D.pair h N.at_ hx with h' | ⟨_, _, h'⟩
      · exact absurd (I.closed i x hx hS j h') N.not
      · exact absurd ht (h' t hd)
/-- what the temporaries hold behind it -/
theorem Inv.puts (D : DR P G nt ops l call sy sn vv) (I : Inv nt l sn vv ρ0 w0 ds S q ρ M a w) {j : Nat} {o : ROp} (N : Now l S j o) {ρ' : Mp} (hE : Ext ρ ρ') {V : Value} (hR : R ρ' (vv j) V) (hdl : ∀ t, o.dst = some t → t < nt) :
    (a.put o.dst V).tmps.size = nt ∧ ∀ t v, TV l (sn 0).tm vv (fun i => S i ∨ i = j) t v → t < nt ∧ R ρ' v ((a.put o.dst V).tmps.getD t undef) := by
  refine ⟨by cases o.dst <;> simp [Act.put, I.tsize], fun t v hv => ?_⟩
  by_cases hd : o.dst = some t
  · have htn := hdl t hd
    have hvj : v = vv j := by
      rcases hv with ⟨i, x, h1, h2, h3, h4, h5⟩ | ⟨h1, _⟩
      · have hji := h5 j o N.at_ (.inr rfl) hd
        rcases Nat.lt_or_ge j i with h | h
        · rcases h2 with h2 | h2
          · rcases D.pair h N.at_ h1 with h' | ⟨_, h', _⟩
            · exact absurd (I.closed i x h1 h2 j h') N.not
            · exact absurd h3 (h' t hd).2
          · omega
        · have : i = j := by omega
          subst this; exact h4
      · exact absurd hd (h1 j o N.at_ (.inr rfl))
    subst hvj
    refine ⟨htn, ?_⟩
    have : t < a.tmps.size := by rw [I.tsize]; exact htn
    simp [Act.put, hd, Array.getD, this, hR]
  · have hv' : TV l (sn 0).tm vv S t v := hv.congr fun i x hx hdx => ⟨fun h => by
      rcases h with h | rfl
      · exact h
      · rw [N.at_] at hx; cases hx; exact absurd hdx hd, fun h => .inl h⟩
    obtain ⟨h1, h2⟩ := I.tval t v hv'
    refine ⟨h1, ?_⟩
    have : (a.put o.dst V).tmps.getD t undef = a.tmps.getD t undef := by
      cases hdd : o.dst with
      | none => rfl
      | some d =>
        rw [hdd] at hd
        have hne : d ≠ t := fun e => hd (by rw [e])
        simp only [Act.put, Array.getD_eq_getD_getElem?]
        rw [Array.getElem?_setIfInBounds_ne hne]
    rw [this]; exact h2.ext hE
theorem Inv.closes (D : DR P G nt ops l call sy sn vv) (I : Inv nt l sn vv ρ0 w0 ds S q ρ M a w) {j : Nat} {o : ROp} (N : Now l S j o) :
    ∀ (k : Nat) (x : ROp), l[k]? = some x → (S k ∨ k = j) → ∀ i, Nat.testBit x.pm i = true → (S i ∨ i = j) := by
  intro k x hx hk i hi
  rcases hk with hk | rfl
  · exact .inl (I.closed k x hx hk i hi)
  · rw [N.at_] at hx; cases hx; exact .inl (N.pre i hi)

/-- an operation that neither writes nor makes (it may mark a block) -/
theorem Inv.same (D : DR P G nt ops l call sy sn vv) (I : Inv nt l sn vv ρ0 w0 ds S q ρ M a w) {j : Nat} {o : ROp} (N : Now l S j o) (he : isE o.op = false) (hm : ¬ Made l sn j) {n : Nat} {w' : World}
    (hst : Step ρ M n w ρ M n w') {V : Value} (hR : R ρ (vv j) V) (hdl : ∀ t, o.dst = some t → t < nt) : Inv nt l sn vv ρ0 w0 ds (fun i => S i ∨ i = j) q ρ M (a.put o.dst V) w' := by
  obtain ⟨t1, t2⟩ := I.puts D N (Ext.refl _) hR hdl
  exact {
    q_le := I.q_le
    eS := fun i x hx hex => by
      have : i ≠ j := fun e => by subst e; rw [N.at_] at hx; cases hx; rw [he] at hex; cases hex
      rw [← I.eS i x hx hex]
      exact ⟨fun h => h.resolve_right this, fun h => .inl h⟩
    sim := hst.sim
    up := I.up
    down := fun id s hs => by
      rcases I.down id s hs with h | ⟨k, h1, h2, h3, h4⟩
      · exact .inl h
      · exact .inr ⟨k, h1, h2, .inl h3, h4⟩
    pend := fun k h1 h2 h3 h4 => by
      rcases h3 with h3 | rfl
      · exact I.pend k h1 h2 h3 h4
      · exact absurd h4 hm
    free := fun k h1 h2 => I.free k h1 (fun h => h2 (.inl h))
    late := fun k h1 h2 h3 => I.late k h1 (fun h => h2 (.inl h)) h3
    ext := I.ext
    new := I.new
    size := Nat.le_trans I.size hst.size
    rest := I.rest.trans hst.rest
    frame := fun b hb hn => by
      rw [hst.frame b (Nat.lt_of_lt_of_le hb I.size) (fun ho => hn (I.own b hb ho)), I.frame b hb hn]
    own := I.own
    off := I.off
    tsize := t1
    tval := t2
    defs := by rw [Act.put_defers']; exact I.defs
    closed := I.closes D N }

/-- an operation that makes a block -/
theorem Inv.makes (D : DR P G nt ops l call sy sn vv) (I : Inv nt l sn vv ρ0 w0 ds S q ρ M a w) {j : Nat} {o : ROp} (N : Now l S j o) (he : isE o.op = false) (hm : Made l sn j) {ob : AO} {tot : Nat} {x : Obj} (hd : ob ≠ .dead)
    (hmem : (sn (j + 1)).ms.mem = (sn j).ms.mem.set (sn j).ms.n ⟨ob, (sn j).ms.n, true⟩) (hn1 : (sn (j + 1)).ms.n = (sn j).ms.n + 1) (hrel : Rel ρ ob ⟨w.heap.size, 0, tot⟩ x) {V : Value}
    (hR : R (ρ.put (sn j).ms.n ⟨w.heap.size, 0, tot⟩) (vv j) V) (hdl : ∀ t, o.dst = some t → t < nt) :
    ∃ ρ' M', Inv nt l sn vv ρ0 w0 ds (fun i => S i ∨ i = j) q ρ' M' (a.put o.dst V) (w.alloc x) := by
  have hjl := N.lt
  have hfree : ρ (sn j).ms.n = none := I.free j hjl N.not _ (Nat.le_refl _) (by omega)
  have hslot : (sn (j + 1)).ms.mem.get (sn j).ms.n = some ⟨ob, (sn j).ms.n, true⟩ := by rw [hmem, T.get_set, if_pos rfl]
  let M' : Mem := M.put (sn j).ms.n ⟨ob, (sn j).ms.n, true⟩
  have hM' : ∀ id, id ≠ (sn j).ms.n → M' id = M id := fun id h => by simp [M', Mem.put, h]
  have hMn : M' (sn j).ms.n = some ⟨ob, (sn j).ms.n, true⟩ := by simp [M', Mem.put]
  have hst : Step ρ M (sn j).ms.n w (ρ.put (sn j).ms.n ⟨w.heap.size, 0, tot⟩) M' ((sn j).ms.n + 1) (w.alloc x) := Step.alloc I.sim hfree x ob tot hd hrel M' (fun _ => rfl)
  obtain ⟨t1, t2⟩ := I.puts D N hst.ext hR hdl
  have hrange1 := D.le (i := 0) (j := j) (by omega) (Nat.le_of_lt hjl)
  have hrange2 := D.le (i := j + 1) (j := l.length) (by omega) (Nat.le_refl _)
  refine ⟨ρ.put (sn j).ms.n ⟨w.heap.size, 0, tot⟩, M', ?_⟩
  exact {
    q_le := I.q_le
    eS := fun i y hy hey => by
      have : i ≠ j := fun e => by subst e; rw [N.at_] at hy; cases hy; rw [he] at hey; cases hey
      rw [← I.eS i y hy hey]
      exact ⟨fun h => h.resolve_right this, fun h => .inl h⟩
    sim := hst.sim
    up := fun id s hs => by
      by_cases hid : id = (sn j).ms.n
      · subst hid
        rcases Nat.lt_or_ge j q with hjq | hjq
        · have := I.late j hjq N.not hm
          rw [this, hslot] at hs; cases hs; exact hMn
        · have := D.le (i := q) (j := j) hjq (Nat.le_of_lt hjl)
          rw [D.bdk I.q_le _ this] at hs; cases hs
      · rw [hM' id hid]; exact I.up id s hs
    down := fun id s hs => by
      by_cases hid : id = (sn j).ms.n
      · subst hid
        rw [hMn] at hs; cases hs
        rcases Nat.lt_or_ge j q with hjq | hjq
        · left; rw [I.late j hjq N.not hm, hslot]
        · exact .inr ⟨j, hjq, hjl, .inr rfl, hm, rfl, hslot⟩
      · rw [hM' id hid] at hs
        rcases I.down id s hs with h | ⟨k, h1, h2, h3, h4⟩
        · exact .inl h
        · exact .inr ⟨k, h1, h2, .inl h3, h4⟩
    pend := fun k h1 h2 h3 h4 => by
      by_cases hk : k = j
      · subst hk; exact ⟨_, hMn, hslot⟩
      · have hkS : S k := h3.resolve_right hk
        have hne : (sn k).ms.n ≠ (sn j).ms.n := by
          have hk2 := h4.2
          rcases Nat.lt_trichotomy k j with h | h | h
          · have := D.le (i := k + 1) (j := j) (by omega) (Nat.le_of_lt hjl); omega
          · exact absurd h hk
          · have := D.le (i := j + 1) (j := k) (by omega) (Nat.le_of_lt h2); omega
        rw [hM' _ hne]; exact I.pend k h1 h2 hkS h4
    free := fun k h1 h2 id h3 h4 => by
      have hk : k ≠ j := fun e => h2 (.inr e)
      have hne : id ≠ (sn j).ms.n := by
        rcases Nat.lt_trichotomy k j with h | h | h
        · have := D.le (i := k + 1) (j := j) (by omega) (Nat.le_of_lt hjl); omega
        · exact absurd h hk
        · have := D.le (i := j + 1) (j := k) (by omega) (Nat.le_of_lt h1); omega
      simp only [Mp.put, hne, if_false]
      exact I.free k h1 (fun h => h2 (.inl h)) id h3 h4
    late := fun k h1 h2 h3 => I.late k h1 (fun h => h2 (.inl h)) h3
    ext := I.ext.trans hst.ext
    new := fun id e h => by
      rcases hst.new id e h with h | ⟨h1, h2⟩
      · exact I.new id e h
      · exact .inr ⟨by omega, by omega⟩
    size := Nat.le_trans I.size hst.size
    rest := I.rest.trans hst.rest
    frame := fun b hb hn => by
      rw [hst.frame b (Nat.lt_of_lt_of_le hb I.size) (fun ho => hn (I.own b hb ho)), I.frame b hb hn]
    own := fun b hb ho => I.own b hb (hst.own b (Nat.lt_of_lt_of_le hb I.size) ho)
    off := fun id h1 h2 => by rw [hM' id (by omega)]; exact I.off id h1 h2
    tsize := t1
    tval := t2
    defs := by rw [Act.put_defers']; exact I.defs
    closed := I.closes D N }

/-- the block that an operation reads stands as it stood in the order of the text -/
theorem Inv.stood (D : DR P G nt ops l call sy sn vv) (I : Inv nt l sn vv ρ0 w0 ds S q ρ M a w) {j : Nat} {o : ROp} (N : Now l S j o) (he : isE o.op = false) (ha : isA o.op = false) {r : Nat} (hr : readOf o (sn j).tm = some r) {sl : Slot}
    (hsl : (sn j).ms.mem.get r = some sl) : M r = some sl := by
  have hjl := N.lt
  -- an operation that is not bound to this one leaves the block
  have keeps : ∀ (x : Nat) (ox : ROp), l[x]? = some ox → (isE ox.op || isA ox.op) = true → Nat.testBit o.pm x = false → Nat.testBit ox.pm j = false → x ≠ j → (sn (x + 1)).ms.mem.get r = (sn x).ms.mem.get r := fun x ox hx h1 h2 h3 h4 => by
    have hxl : x < l.length := by
      rcases Nat.lt_or_ge x l.length with h | h
      · exact h
      · rw [List.getElem?_eq_none h] at hx; cases hx
    have hs := D.stay j o r N.at_ hr x ox hx h1 h2 h3 h4
    rcases (D.evo hxl).evo.same r with h | ⟨s, h, hle⟩
    · exact h
    · have := hs s h; omega
  have plain : ∀ (x : Nat) (ox : ROp), l[x]? = some ox → (isE ox.op || isA ox.op) = false → (sn (x + 1)).ms.mem.get r = (sn x).ms.mem.get r := fun x ox hx h => by
    simp only [Bool.or_eq_false_iff] at h
    rw [(D.plain hx h.1 h.2).1]
  rcases Nat.lt_or_ge j q with hjq | hjq
  · -- the text has gone on beyond it
    have up : ∀ d, j + 1 + d ≤ q → (sn (j + 1 + d)).ms.mem.get r = some sl := by
      intro d
      induction d with
      | zero => intro _; rw [Nat.add_zero, (D.plain N.at_ he ha).1]; exact hsl
      | succ d ih =>
        intro hd
        have h0 := ih (by omega)
        have hq := I.q_le
        obtain ⟨ox, _, hx, _⟩ := D.get (k := j + 1 + d) (by omega)
        have e : j + 1 + (d + 1) = (j + 1 + d) + 1 := by omega
        rw [e]
        cases hEA : isE ox.op || isA ox.op with
        | false => rw [plain _ ox hx hEA]; exact h0
        | true =>
          have hb1 : Nat.testBit o.pm (j + 1 + d) = false := by
            cases hb : Nat.testBit o.pm (j + 1 + d) with
            | false => rfl
            | true => have := D.bits j N.at_ _ hb; omega
          cases hb2 : Nat.testBit ox.pm j with
          | false => rw [keeps _ ox hx hEA hb1 hb2 (by omega)]; exact h0
          | true =>
            cases hE : isE ox.op with
            | true =>
              have : S (j + 1 + d) := (I.eS _ ox hx hE).2 (by omega)
              exact absurd (I.closed _ ox hx this j hb2) N.not
            | false =>
              have hA : isA ox.op = true := by rw [hE] at hEA; simpa using hEA
              rcases D.make hx hA with ⟨h1, _⟩ | ⟨ob, _, h1, _⟩
              · rw [h1]; exact h0
              · rw [h1, T.get_set, if_neg]
                · exact h0
                · intro e; rw [e, D.bdk (k := j + 1 + d) (by omega) _ (Nat.le_refl _)] at h0; cases h0
    have := up (q - (j + 1)) (by omega)
    have e : j + 1 + (q - (j + 1)) = q := by omega
    rw [e] at this
    exact I.up r sl this
  · -- it comes ahead of its place in the text
    have dn : ∀ d, d ≤ j - q → (sn (j - d)).ms.mem.get r = some sl ∨ ∃ x, j - d ≤ x ∧ x < j ∧ Made l sn x ∧ S x ∧ r = (sn x).ms.n ∧ (sn (x + 1)).ms.mem.get r = some sl := by
      intro d
      induction d with
      | zero => intro _; exact .inl hsl
      | succ d ih =>
        intro hd
        rcases ih (by omega) with h0 | ⟨x, h1, h2, h3⟩
        · have e : j - d = (j - (d + 1)) + 1 := by omega
          rw [e] at h0
          obtain ⟨ox, _, hx, _⟩ := D.get (k := j - (d + 1)) (by omega)
          cases hEA : isE ox.op || isA ox.op with
          | false => left; rw [plain _ ox hx hEA] at h0; exact h0
          | true =>
            have hb2 : Nat.testBit ox.pm j = false := by
              cases hb : Nat.testBit ox.pm j with
              | false => rfl
              | true => have := D.bits _ hx _ hb; omega
            cases hb1 : Nat.testBit o.pm (j - (d + 1)) with
            | false => left; rw [keeps _ ox hx hEA hb1 hb2 (by omega)] at h0; exact h0
            | true =>
              have hSx := N.pre _ hb1
              cases hE : isE ox.op with
              | true => have := (I.eS _ ox hx hE).1 hSx; omega
              | false =>
                have hA : isA ox.op = true := by rw [hE] at hEA; simpa using hEA
                rcases D.make hx hA with ⟨h1, _⟩ | ⟨ob, _, h1, h2⟩
                · left; rw [h1] at h0; exact h0
                · by_cases hrr : r = (sn (j - (d + 1))).ms.n
                  · exact .inr ⟨j - (d + 1), Nat.le_refl _, by omega, ⟨⟨ox, hx, hA⟩, by omega⟩, hSx, hrr, h0⟩
                  · left; rw [h1, T.get_set, if_neg hrr] at h0; exact h0
        · exact .inr ⟨x, by omega, h2, h3⟩
    rcases dn (j - q) (Nat.le_refl _) with h0 | ⟨x, h1, h2, h3, h4, h5, h6⟩
    · have e : j - (j - q) = q := by omega
      rw [e] at h0; exact I.up r sl h0
    · obtain ⟨s, e1, e2⟩ := I.pend x (by omega) (by omega) h4 h3
      rw [h5] at h6 ⊢
      rw [h6] at e2; cases e2; exact e1

/-- an operation that writes, in its turn -/
theorem Inv.wr (D : DR P G nt ops l call sy sn vv) {j : Nat} {o : ROp} (I : Inv nt l sn vv ρ0 w0 ds S j ρ M a w) (N : Now l S j o) (he : isE o.op = true) {ρ' : Mp} {w' : World}
    (hst : Step ρ (sn j).ms.mem.get (sn j).ms.n w ρ' (sn (j + 1)).ms.mem.get (sn (j + 1)).ms.n w') {V : Value} (hR : R ρ' (vv j) V) (hdl : ∀ t, o.dst = some t → t < nt) :
    ∃ M', Inv nt l sn vv ρ0 w0 ds (fun i => S i ∨ i = j) (j + 1) ρ' M' (a.put o.dst V) w' := by
  classical
  have hjl := N.lt
  have hrange1 := D.le (i := 0) (j := j) (by omega) (Nat.le_of_lt hjl)
  have hrange2 := D.le (i := j + 1) (j := l.length) (by omega) (Nat.le_refl _)
  have hle1 := D.le (i := j) (j := j + 1) (by omega) hjl
  let Pd : Nat → Prop := fun id => ∃ k, j < k ∧ k < l.length ∧ S k ∧ Made l sn k ∧ id = (sn k).ms.n
  let M' : Mem := fun id => if Pd id then M id else (sn (j + 1)).ms.mem.get id
  have hMp : ∀ id, Pd id → M' id = M id := fun id h => by simp [M', h]
  have hMo : ∀ id, ¬ Pd id → M' id = (sn (j + 1)).ms.mem.get id := fun id h => by simp [M', h]
  have pdge : ∀ id, Pd id → (sn (j + 1)).ms.n ≤ id ∧ id < (sn l.length).ms.n := fun id ⟨k, h1, h2, h3, h4, h5⟩ => by
    have := D.le (i := j + 1) (j := k) (by omega) (Nat.le_of_lt h2)
    have := D.le (i := k + 1) (j := l.length) (by omega) (Nat.le_refl _)
    have := h4.2
    omega
  have pdabs : ∀ id, Pd id → (sn (j + 1)).ms.mem.get id = none := fun id h => D.bdk (k := j + 1) hjl id (pdge id h).1
  have notA : ¬ Made l sn j := fun ⟨⟨o', ho', ha⟩, _⟩ => by
    rw [N.at_] at ho'; cases ho'
    obtain ⟨_, _, op, _⟩ := o
    cases op <;> simp [isE, isA] at he ha
  have pdlive : ∀ id s, Pd id → M id = some s → s.o ≠ .dead := fun id s ⟨k, h1, h2, h3, h4, h5⟩ hs => by
    obtain ⟨s', e1, e2⟩ := I.pend k (by omega) h2 h3 h4
    rw [← h5] at e1 e2
    rw [hs] at e1; cases e1
    obtain ⟨ob, hob, hmem, _⟩ := D.made h4
    rw [hmem, T.get_set, if_pos h5] at e2
    cases e2; exact hob
  have hmapOld : ∀ id e, ρ' id = some e → Pd id → ρ id = some e := fun id e h hp => by
    rcases hst.new id e h with h | ⟨_, h2⟩
    · exact h
    · have := (pdge id hp).1; omega
  -- a block of what is still to come is not written
  have pdfree : ∀ id e, ρ id = some e → Pd id → ¬ Own ρ (sn j).ms.mem.get e.blk := fun id e he' hp ⟨id2, e2, s2, h1, h2, h3, h4, h5⟩ => by
    have hne : id2 ≠ id := fun h => by
      subst h
      rw [D.bdk (k := j) (Nat.le_of_lt hjl) id2 (by have := (pdge id2 hp).1; omega)] at h3; cases h3
    refine I.sim.inj id2 id e2 e h1 he' hne (fun s hs => ?_) (fun s hs => pdlive id s hp hs) h2
    rw [I.up id2 s2 h3] at hs; cases hs; exact h5
  obtain ⟨t1, t2⟩ := I.puts D N hst.ext hR hdl
  refine ⟨M', ?_⟩
  exact {
    q_le := hjl
    eS := fun i x hx hex => by
      constructor
      · intro h
        rcases h with h | rfl
        · have := (I.eS i x hx hex).1 h; omega
        · omega
      · intro h
        rcases Nat.lt_or_ge i j with h' | h'
        · exact .inl ((I.eS i x hx hex).2 h')
        · exact .inr (by omega)
    sim := {
      rel := fun id e s h1 h2 => by
        by_cases hp : Pd id
        · rw [hMp id hp] at h2
          have ho := hmapOld id e h1 hp
          obtain ⟨x, hx, hrel⟩ := I.sim.rel id e s ho h2
          exact ⟨x, by rw [hst.frame e.blk (I.sim.lt id e ho) (pdfree id e ho hp)]; exact hx, hrel.ext hst.ext⟩
        · rw [hMo id hp] at h2
          exact hst.sim.rel id e s h1 h2
      inj := fun id id' e e' h1 h2 h3 h4 h5 => by
        refine hst.sim.inj id id' e e' h1 h2 h3 (fun s hs => ?_) (fun s hs => ?_)
        · have hp : ¬ Pd id := fun hp => by rw [pdabs id hp] at hs; cases hs
          exact h4 s (by rw [hMo id hp]; exact hs)
        · have hp : ¬ Pd id' := fun hp => by rw [pdabs id' hp] at hs; cases hs
          exact h5 s (by rw [hMo id' hp]; exact hs)
      lt := hst.sim.lt
      old := hst.sim.old
      sz := hst.sim.sz
      hi := fun id e s h1 h2 h3 h4 => by
        by_cases hp : Pd id
        · rw [hMp id hp] at h2
          exact I.sim.hi id e s (hmapOld id e h1 hp) h2 h3 h4
        · rw [hMo id hp] at h2
          exact hst.sim.hi id e s h1 h2 h3 h4 }
    up := fun id s hs => by
      have hp : ¬ Pd id := fun hp => by rw [pdabs id hp] at hs; cases hs
      rw [hMo id hp]; exact hs
    down := fun id s hs => by
      by_cases hp : Pd id
      · have hp' := hp
        obtain ⟨k, h1, h2, h3, h4, h5⟩ := hp'
        rw [hMp id hp] at hs
        obtain ⟨s', e1, e2⟩ := I.pend k (by omega) h2 h3 h4
        rw [← h5] at e1 e2
        rw [hs] at e1; cases e1
        exact .inr ⟨k, h1, h2, .inl h3, h4, h5, e2⟩
      · rw [hMo id hp] at hs; exact .inl hs
    pend := fun k h1 h2 h3 h4 => by
      rcases h3 with h3 | rfl
      · have hp : Pd (sn k).ms.n := ⟨k, h1, h2, h3, h4, rfl⟩
        rw [hMp _ hp]; exact I.pend k (by omega) h2 h3 h4
      · omega
    free := fun k h1 h2 id h3 h4 => by
      have hk : k ≠ j := fun e => h2 (.inr e)
      cases hx : ρ' id with
      | none => rfl
      | some e =>
        rcases hst.new id e hx with hy | ⟨h5, h6⟩
        · rw [I.free k h1 (fun h => h2 (.inl h)) id h3 h4] at hy; cases hy
        · rcases Nat.lt_or_ge k j with h | h
          · have := D.le (i := k + 1) (j := j) (by omega) (Nat.le_of_lt hjl); omega
          · have := D.le (i := j + 1) (j := k) (by omega) (Nat.le_of_lt h1); omega
    late := fun k h1 h2 h3 => by
      have hk : k ≠ j := fun e => h2 (.inr e)
      have hkj : k < j := by omega
      have hfr := I.free k (by omega) (fun h => h2 (.inl h)) (sn k).ms.n (Nat.le_refl _) h3.2
      have hlt : (sn k).ms.n < (sn j).ms.n := by
        have := D.le (i := k + 1) (j := j) (by omega) (Nat.le_of_lt hjl)
        have := h3.2
        omega
      rw [hst.off _ hfr (.inl hlt)]
      exact I.late k hkj (fun h => h2 (.inl h)) h3
    ext := I.ext.trans hst.ext
    new := fun id e h => by
      rcases hst.new id e h with h | ⟨h1, h2⟩
      · exact I.new id e h
      · exact .inr ⟨by omega, by omega⟩
    size := Nat.le_trans I.size hst.size
    rest := I.rest.trans hst.rest
    frame := fun b hb hn => by
      have hno : ¬ Own ρ (sn j).ms.mem.get b := fun ⟨id, e, s, h1, h2, h3, h4⟩ => hn (I.own b hb ⟨id, e, s, h1, h2, I.up id s h3, h4⟩)
      rw [hst.frame b (Nat.lt_of_lt_of_le hb I.size) hno, I.frame b hb hn]
    own := fun b hb ⟨id, e, s, h1, h2, h3, h4, h5⟩ => by
      by_cases hp : Pd id
      · rw [hMp id hp] at h3
        exact I.own b hb ⟨id, e, s, hmapOld id e h1 hp, h2, h3, h4, h5⟩
      · rw [hMo id hp] at h3
        obtain ⟨id2, e2, s2, g1, g2, g3, g4⟩ := hst.own b (Nat.lt_of_lt_of_le hb I.size) ⟨id, e, s, h1, h2, h3, h4, h5⟩
        exact I.own b hb ⟨id2, e2, s2, g1, g2, I.up id2 s2 g3, g4⟩
    off := fun id h1 h2 => by
      have hp : ¬ Pd id := fun hp => by have := pdge id hp; omega
      have hρ : ρ id = none := by
        cases hx : ρ id with
        | none => rfl
        | some e =>
          rcases I.new id e hx with h | h
          · rw [h1] at h; cases h
          · omega
      rw [hMo id hp, hst.off id hρ (by omega), ← I.off id h1 h2]
      cases hm : M id with
      | none =>
        cases hx : (sn j).ms.mem.get id with
        | none => rfl
        | some s => rw [I.up id s hx] at hm; cases hm
      | some s =>
        rcases I.down id s hm with h | ⟨k, g1, g2, g3, g4, g5, _⟩
        · exact h
        · exfalso
          have hkj : k ≠ j := fun e => notA (e ▸ g4)
          exact hp ⟨k, by omega, g2, g3, g4, g5⟩
    tsize := t1
    tval := t2
    defs := by rw [Act.put_defers']; exact I.defs
    closed := I.closes D N }
end
end Ev
end Go.Proofs.YtakgohocimlagaaGreat
