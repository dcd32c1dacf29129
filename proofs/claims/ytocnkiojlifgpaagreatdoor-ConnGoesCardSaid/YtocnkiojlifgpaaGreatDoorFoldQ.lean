/-
  Package tls's plain laws of folded names, and appends of bytes, for packages without tls's own texts. No condition.
-/
import Derived.Test.YtocnkiojlifgpaaGreatDoorFoldW
import Derived.Deep.RegionHeld3
namespace Go.Proofs.YtocnkiojlifgpaaGreatDoor
open Go.RowKit Go.Lib
set_option linter.unusedVariables false
set_option linter.unusedSimpArgs false

theorem foldB_some {l t : List UInt8} (h : foldA l = some t) : foldB ⟨l.toArray⟩ = ⟨t.toArray⟩ ∧ foldIs ⟨l.toArray⟩ = true := by
  unfold foldB foldIs
  rw [foldL_eq]
  show (match foldA l with | some l => _ | none => _) = _ ∧ (foldA l).isSome = true
  rw [h]
  exact ⟨rfl, rfl⟩
set_option maxRecDepth 100000 in
theorem goodU_upper : ∀ i : Fin 256, goodU (UInt8.ofNat i.val) = true → goodU (upperB (UInt8.ofNat i.val)) = true ∧ lowerB (upperB (UInt8.ofNat i.val)) = lowerB (UInt8.ofNat i.val) ∧ (upperB (UInt8.ofNat i.val) = 46 ↔ UInt8.ofNat i.val = 46) := by decide
theorem goodU_up {c : UInt8} (h : goodU c = true) : goodU (upperB c) = true ∧ lowerB (upperB c) = lowerB c ∧ (upperB c = 46 ↔ c = 46) := by
  have := goodU_upper ⟨c.toNat, c.toNat_lt⟩
  simp only [UInt8.ofNat_toNat] at this
  exact this h
set_option maxRecDepth 100000 in
theorem goodU_lower : ∀ i : Fin 256, goodU (UInt8.ofNat i.val) = true → goodU (lowerB (UInt8.ofNat i.val)) = true ∧ lowerB (lowerB (UInt8.ofNat i.val)) = lowerB (UInt8.ofNat i.val) ∧ (lowerB (UInt8.ofNat i.val) = 46 ↔ UInt8.ofNat i.val = 46) := by decide
theorem goodU_low {c : UInt8} (h : goodU c = true) : goodU (lowerB c) = true ∧ lowerB (lowerB c) = lowerB c ∧ (lowerB c = 46 ↔ c = 46) := by
  have := goodU_lower ⟨c.toNat, c.toNat_lt⟩
  simp only [UInt8.ofNat_toNat] at this
  exact this h
theorem emptyP_map {f : UInt8 → UInt8} (hf : ∀ c, goodU c = true → (f c = 46 ↔ c = 46)) : ∀ (s : List UInt8) (a : Bool), (∀ b ∈ s, goodU b = true) → emptyP a (s.map f) = emptyP a s
  | [], a, _ => rfl
  | c :: t, a, h => by
    have hc := hf c (h c (by simp))
    have ht := fun x => emptyP_map hf t x (fun b hb => h b (by simp [hb]))
    rw [List.map_cons, emptyP, emptyP, ht, ht]
    by_cases e : c = 46
    · rw [if_pos e, if_pos (hc.2 e)]
    · rw [if_neg e, if_neg (fun e2 => e (hc.1 e2))]
theorem ascii_of {s l : List UInt8} (h : foldA s = some l) : ∀ b ∈ s, b.toNat < 128 := fun b hb => by
  have := (foldA_some h).2.2.2.1 b hb
  simp [goodU] at this
  exact this.1
theorem foldA_upper {s l : List UInt8} (h : foldA s = some l) : foldA (toUpperD s) = some l := by
  obtain ⟨h1, h2, h3, h4, h5⟩ := foldA_some h
  rw [toUpperD_ascii s (ascii_of h)]
  have := foldA_of (s := toUpperA s) (by simp [toUpperA, h1]) (by simp [toUpperA]; exact h2) (by unfold toUpperA; rw [emptyP_map (fun c hc => (goodU_up hc).2.2) s true h4]; exact h3) (by
    intro b hb
    simp only [toUpperA, List.mem_map] at hb
    obtain ⟨c, hc, rfl⟩ := hb
    exact (goodU_up (h4 c hc)).1)
  rw [this, h5]
  congr 1
  simp only [toUpperA, List.map_map]
  exact List.map_congr_left fun c hc => (goodU_up (h4 c hc)).2.1
theorem foldA_again {s l : List UInt8} (h : foldA s = some l) : foldA l = some l := by
  obtain ⟨h1, h2, h3, h4, rfl⟩ := foldA_some h
  have := foldA_of (s := s.map lowerB) (by simp [h1]) (by simp; exact h2) (by rw [emptyP_map (fun c hc => (goodU_low hc).2.2) s true h4]; exact h3) (by
    intro b hb
    simp only [List.mem_map] at hb
    obtain ⟨c, hc, rfl⟩ := hb
    exact (goodU_low (h4 c hc)).1)
  rw [this]
  congr 1
  simp only [List.map_map]
  exact List.map_congr_left fun c hc => (goodU_low (h4 c hc)).2.1
theorem foldA_len {s l : List UInt8} (h : foldA s = some l) : l.length = s.length := by rw [(foldA_some h).2.2.2.2]; simp
theorem foldA_low {s l : List UInt8} (h : foldA s = some l) : toLowerD s = l := by rw [toLowerD_ascii s (ascii_of h), (foldA_some h).2.2.2.2]; rfl
theorem emptyP_last : ∀ (p : List UInt8) (a : Bool), emptyP a (p ++ [46]) = true
  | [], a => by cases a <;> rfl
  | c :: t, a => by
    rw [List.cons_append, emptyP]
    split
    · rw [emptyP_last t true]; simp
    · exact emptyP_last t false
theorem emptyP_two : ∀ (p q : List UInt8) (a : Bool), emptyP a (p ++ 46 :: 46 :: q) = true
  | [], q, a => by simp [emptyP]
  | c :: t, q, a => by
    rw [List.cons_append, emptyP]
    split
    · rw [emptyP_two t q true]; simp
    · exact emptyP_two t q false
theorem foldA_first {s l : List UInt8} (h : foldA s = some l) : ∃ c, s[0]? = some c ∧ c ≠ 46 := by
  obtain ⟨h1, _, h3, _⟩ := foldA_some h
  cases s with
  | nil => exact absurd rfl h1
  | cons c t =>
    refine ⟨c, rfl, fun e => ?_⟩
    subst e
    rw [emptyP] at h3
    simp at h3
theorem foldA_last {s l : List UInt8} (h : foldA s = some l) : ∃ c, s[s.length - 1]? = some c ∧ c ≠ 46 := by
  obtain ⟨h1, _, h3, _⟩ := foldA_some h
  have hp : 0 < s.length := List.length_pos_iff.2 h1
  refine ⟨_, List.getElem?_eq_getElem (by omega), fun e => ?_⟩
  have : s = s.dropLast ++ [46] := by
    conv => lhs; rw [← List.dropLast_concat_getLast h1]
    rw [List.getLast_eq_getElem, e]
  rw [this, emptyP_last] at h3
  cases h3
theorem foldA_two {s l : List UInt8} (h : foldA s = some l) : Lib.contains s [46, 46] = false := by
  obtain ⟨_, _, h3, _⟩ := foldA_some h
  unfold Lib.contains
  rcases index_spec s [46, 46] with ⟨h1, _⟩ | ⟨i, h1, h2, h4, _⟩
  · rw [h1]; rfl
  · exfalso
    unfold occAt at h4
    obtain ⟨q, hq⟩ := List.isPrefixOf_iff_prefix.1 h4
    have : s = s.take i ++ 46 :: 46 :: q := by
      conv => lhs; rw [← List.take_append_drop i s]
      rw [← hq]
      rfl
    rw [this, emptyP_two] at h3
    cases h3
theorem foldB_at {s : ByteArray} {t : List UInt8} (h : foldA s.data.toList = some t) : foldB s = ⟨t.toArray⟩ ∧ foldIs s = true := by
  have e : s = ⟨s.data.toList.toArray⟩ := by cases s; simp
  have := foldB_some h
  rw [← e] at this
  exact this
theorem foldB_not {s : ByteArray} (h : foldA s.data.toList = none) : foldB s = ByteArray.empty ∧ foldIs s = false := by
  unfold foldB foldIs
  rw [foldL_eq, h]
  exact ⟨rfl, rfl⟩
theorem own_keep0 {w w' : World} {B e sz n : Nat} {v : Value} {xs : List Value} (h : w.ownsRow B e sz v n xs) (k : Keeps [] w w') : w'.ownsRow B e sz v n xs := own_keeps h k
theorem own_keepS {w w' : World} {S : List Nat} {B e sz n : Nat} {v : Value} {xs : List Value} (h : w.ownsRow B e sz v n xs) (k : Keeps S w w') (hS : ∀ j, v.ownBlock = some j → j ∉ S) : w'.ownsRow B e sz v n xs := by
  refine ⟨h.1, ?_⟩
  rcases h.2 with h0 | ⟨g, cap, cur, h1, hb, hg, hrest⟩
  · exact .inl h0
  · refine .inr ⟨g, cap, cur, h1, hb, (k.block g (lt_of_block hg) (hS g (by rw [h1]; rfl))).trans hg, hrest⟩
theorem own_new (w : World) (vs : Array Value) (l : List UInt8) (h : vs.toList = l.map u8V) (hl : l.length ≤ maxLen) : (w.alloc (.cells vs 5)).ownsRow w.heap.size 5 1 (.slice (some ⟨w.heap.size, 0, none⟩) l.length l.length) l.length (l.map u8V) := by
  have hs : vs.size = l.length := by rw [← Array.length_toList, h, List.length_map]
  refine ⟨by simp, .inr ⟨w.heap.size, l.length, _, rfl, Nat.le_refl _, (MapKept.heap_alloc w _).1, Nat.le_refl _, hl, by omega, ?_⟩⟩
  rw [h, Nat.mul_one]
  exact List.take_of_length_le (by simp)
theorem grow_keeps {w w1 w2 : World} {B e sz n : Nat} {v : Value} {xs : List Value} (k : Keeps [] w w1) (ho : w1.ownsRow B e sz v n xs) (hB : w.heap.size ≤ B) (hg : w1.grownBy w2 v.ownBlock) : Keeps [] w w2 :=
  k.own hg (fun j hj => by
    rcases ho.2 with ⟨h0, _⟩ | ⟨g', cap, cur, h0, h1, _⟩
    · rw [h0] at hj; cases hj
    · rw [h0] at hj
      have hj2 : g' = j := by injection hj
      omega)
/-- bytes that a call of its own holds -/
def OwnB (w : World) (B : Nat) (v : Value) (l : List UInt8) : Prop := w.ownsRow B 5 1 v l.length (l.map u8V)
theorem OwnB.keep0 {w w' : World} {B : Nat} {v : Value} {l : List UInt8} (h : OwnB w B v l) (k : Keeps [] w w') : OwnB w' B v l := own_keep0 h k
theorem OwnB.bytes {w : World} {B : Nat} {v : Value} {l : List UInt8} (h : OwnB w B v l) : BytesV w v l := BytesV.of_own h
theorem OwnB.form {w : World} {B : Nat} {v : Value} {l : List UInt8} (h : OwnB w B v l) : ∃ A c, v = .slice A l.length c := by
  rcases h.2 with ⟨rfl, h0⟩ | ⟨g, cap, cur, rfl, _⟩
  · exact ⟨none, 0, by rw [h0]⟩
  · exact ⟨_, _, rfl⟩
theorem OwnB.new (w : World) (vs : Array Value) (l : List UInt8) (h : vs.toList = l.map u8V) (hl : l.length ≤ 100) : OwnB (w.alloc (.cells vs 5)) w.heap.size (.slice (some ⟨w.heap.size, 0, none⟩) l.length l.length) l := own_new w vs l h (by simp only [maxLen]; omega)
/-- append in a plain region -/
theorem app_B {w : World} {ops : Array Oper} {rest : List Oper} {o : Oper} {a : Act} {Q : Exit → Act → World → Prop} (hg : o.guard = none) (s x : Operand) (w0 : World) (B : Nat) (kw : Keeps [] w0 w) (hB : w0.heap.size ≤ B) (hBw : B ≤ w.heap.size)
    (ho : o.op = .call { callee := .builtin .append, args := #[s, x], argTypes := #[42, 42] })
    (v : Value) (xs : List UInt8) (hs : a.eval s = v) (hown : OwnB w B v xs) (y : Value) (l : List UInt8) (hx : a.eval x = y) (hy : BytesV w y l) (hn : xs.length + l.length ≤ 1000000)
    (h : ∀ v' w', OwnB w' B v' (xs ++ l) → Keeps [] w0 w' → wpList Tryz.prog ops Q rest (a.put o.dst v') w') : wpList Tryz.prog ops Q (o :: rest) a w :=
  wpList_append_bytes hg s x B 42 5 ho Tryz.underlying42 Tryz.infoU8 v xs.length xs hs hown y l hx hy (by omega) hBw fun v' w' h1 h2 _ _ => h v' w' (by unfold OwnB; rw [List.length_append]; exact h1) (grow_keeps kw hown hB h2)
/-- the same, of a row that the call's own world ends with -/
theorem app_W {w : World} {ops : Array Oper} {rest : List Oper} {o : Oper} {a : Act} {Q : Exit → Act → World → Prop} (hg : o.guard = none) (s x : Operand) (w0 : World) (kw : Keeps [] w0 w)
    (ho : o.op = .call { callee := .builtin .append, args := #[s, x], argTypes := #[42, 42] })
    (v : Value) (xs : List UInt8) (hs : a.eval s = v) (hown : OwnB w w0.heap.size v xs) (y : Value) (l : List UInt8) (hx : a.eval x = y) (hy : BytesV w y l) (hn : xs.length + l.length ≤ 1000000)
    (h : ∀ v' w', OwnB w' w0.heap.size v' (xs ++ l) → Keeps [] w0 w' → wpList Tryz.prog ops Q rest (a.put o.dst v') w') : wpList Tryz.prog ops Q (o :: rest) a w :=
  app_B hg s x w0 w0.heap.size kw (Nat.le_refl _) kw.size ho v xs hs hown y l hx hy hn h
theorem OwnB.weak {w : World} {B B' : Nat} {v : Value} {l : List UInt8} (h : OwnB w B v l) (hB : B' ≤ B) : OwnB w B' v l := by
  refine ⟨h.1, ?_⟩
  rcases h.2 with h0 | ⟨g, cap, cur, h1, h2, h3⟩
  · exact .inl h0
  · exact .inr ⟨g, cap, cur, h1, by omega, h3⟩
/-- append of bytes as one step of a region that draws -/
theorem step_append_B {o : Oper} {a : Act} {w : World} {K : Act → World → Prop} {Q : Exit → Act → World → Prop} (s x : Operand) (t : TypeId)
    (hop : o.op = Op.call { callee := Callee.builtin Builtin.append, args := #[s, x], argTypes := #[t, t] }) (ht : Tryz.prog.underlying t = some (.slice 5))
    (B : Nat) (hB : B ≤ w.heap.size) (v : Value) (n : Nat) (l1 : List UInt8) (hs : a.eval s = v) (hown : w.ownsRow B 5 1 v n (l1.map u8V)) (y : Value) (l : List UInt8) (hx : a.eval x = y) (hy : BytesV w y l) (hn : n + l.length ≤ 1099511627776)
    (h : ∀ v' w', w'.ownsRow B 5 1 v' (n + l.length) ((l1 ++ l).map u8V) → w.grownBy w' v.ownBlock → (v'.ownBlock = v.ownBlock ∨ v'.ownBlock = some w.heap.size) → K (a.put o.dst v') w') : Oper.wp Tryz.prog o a w K Q := by
  obtain ⟨v', w', hrun, h2, h3, h4, h5⟩ := run_append_bytes (P := Tryz.prog) w B t o.type 5 ht Tryz.infoU8 v n l1 hown y l hy hn hB
  unfold Oper.wp
  simp only [execOp, hop, resolve, invoke, builtin, Sem.run_bind, Sem.run_pure, Result.andThen_ok, List.map_toArray, List.map_cons, List.map_nil, hs, hx, hrun]
  exact h v' w' h2 h3 h4
theorem BytesV.cut {w : World} {A : Option Addr} {n c m : Nat} {l : List UInt8} (h : BytesV w (.slice A n c) l) (hm : m ≤ n) : BytesV w (.slice A m c) (l.take m) := by
  obtain ⟨hn, hc, hx⟩ := h.form
  obtain ⟨A', c', e, _, _, h3⟩ := h
  injection e with e1 e2 e3
  subst e1 e3
  have hl : (l.take m).length = m := by rw [List.length_take]; omega
  refine ⟨A, c, by rw [hl], by omega, hx, fun hp => ?_⟩
  obtain ⟨g, o, e, hcell⟩ := h3 (by omega)
  refine ⟨g, o, e, fun i x hx => hcell i x ?_⟩
  rw [List.getElem?_take] at hx
  split at hx
  · exact hx
  · cases hx
end Go.Proofs.YtocnkiojlifgpaaGreatDoor
