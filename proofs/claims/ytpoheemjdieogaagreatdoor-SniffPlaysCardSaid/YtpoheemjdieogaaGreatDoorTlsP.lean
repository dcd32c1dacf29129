/-
  The plain law of tls.Look: what is told of bytes, and that it stays. No condition.
-/
import Derived.Test.YtpoheemjdieogaaGreatDoorFoldP
namespace Go.Proofs.YtpoheemjdieogaaGreatDoor
set_option linter.unusedVariables false
set_option linter.unusedSimpArgs false

/-- how far bytes were looked at; the name; whether the names' extension was there -/
structure LS where
  at_ : Nat
  name : ByteArray
  named : Bool
  seen : Bool
/-- a number off bytes, the first the highest -/
def beN (l : List UInt8) : Nat := l.foldl (fun n c => n * 256 + c.toNat) 0
def eForm : Int := 5
def eShort : Int := 4
/-- bytes that are read -/
def getL (bs : List UInt8) (n : Nat) (s : LS) : Except Int (List UInt8 × LS) :=
  if bs.length - s.at_ < n then .error eShort else .ok ((bs.drop s.at_).take n, { s with at_ := s.at_ + n })
/-- a number of so many bytes -/
def numL (bs : List UInt8) (size e : Nat) (s : LS) : Except Int (Nat × LS) :=
  if e - s.at_ < size then .error eForm else
    match getL bs size s with
    | .error c => .error c
    | .ok (b, s') => .ok (beN b, s')
/-- how many bytes stand there; and they are gone through -/
def someL (bs : List UInt8) (size e : Nat) (okf : Nat → Nat → Bool) (within : Nat → Nat → LS → Except Int LS) (s : LS) : Except Int LS :=
  match numL bs size e s with
  | .error c => .error c
  | .ok (n, s') => if okf n (e - s'.at_) = true ∧ n ≤ e - s'.at_ then within n (s'.at_ + n) s' else .error eForm
def skipL (bs : List UInt8) (n e : Nat) (s : LS) : Except Int LS :=
  if e - s.at_ < n then .error eForm else
    match getL bs n s with
    | .error c => .error c
    | .ok (_, s') => .ok s'
/-- one name's bytes -/
def nameL (bs : List UInt8) (sort n : Nat) (s : LS) : Except Int LS :=
  match getL bs n s with
  | .error c => .error c
  | .ok (b, s') => if sort ≠ 0 ∨ s'.named = true then .ok s' else
    match foldA b with
    | none => .error eForm
    | some low => .ok { s' with name := ⟨low.toArray⟩, named := true }
def anyQ : Nat → Nat → Bool := fun _ _ => true
/-- the names -/
def listG (bs : List UInt8) : Nat → Nat → LS → Except Int LS
  | 0, _, s => .ok s
  | k + 1, e, s => if e ≤ s.at_ then .ok s else
    match numL bs 1 e s with
    | .error c => .error c
    | .ok (sort, s1) =>
      match someL bs 2 e anyQ (fun n _ t => nameL bs sort n t) s1 with
      | .error c => .error c
      | .ok s2 => listG bs k e s2
def listL (bs : List UInt8) (e : Nat) (s : LS) : Except Int LS := listG bs (e - s.at_) e s
/-- an extension's bytes -/
def extL (bs : List UInt8) (kind n e : Nat) (s : LS) : Except Int LS :=
  if kind ≠ 0 then skipL bs n e s else
    if s.seen = true then .error eForm else
      someL bs 2 e (fun k _ => decide (0 < k ∧ (k : Int) = (n : Int) - 2)) (fun _ e' t => listL bs e' t) { s with seen := true }
def extG (bs : List UInt8) : Nat → Nat → LS → Except Int LS
  | 0, _, s => .ok s
  | k + 1, e, s => if e ≤ s.at_ ∨ s.named = true then .ok s else
    match numL bs 2 e s with
    | .error c => .error c
    | .ok (kind, s1) =>
      match someL bs 2 e anyQ (fun n e' t => extL bs kind n e' t) s1 with
      | .error c => .error c
      | .ok s2 => extG bs k e s2
def extsL (bs : List UInt8) (e : Nat) (s : LS) : Except Int LS := extG bs (e - s.at_) e s
/-- a hello's body -/
def bodyL (bs : List UInt8) (e : Nat) (s : LS) : Except Int LS :=
  match skipL bs 34 e s with
  | .error c => .error c
  | .ok s1 =>
    match someL bs 1 e (fun n _ => decide (n ≤ 32)) (fun n e' t => skipL bs n e' t) s1 with
    | .error c => .error c
    | .ok s2 =>
      match someL bs 2 e (fun n _ => decide (2 ≤ n ∧ n % 2 = 0)) (fun n e' t => skipL bs n e' t) s2 with
      | .error c => .error c
      | .ok s3 =>
        match someL bs 1 e (fun n _ => decide (1 ≤ n)) (fun n e' t => skipL bs n e' t) s3 with
        | .error c => .error c
        | .ok s4 => if e ≤ s4.at_ then .ok s4 else someL bs 2 e (fun n left => decide (n = left)) (fun _ e' t => extsL bs e' t) s4
def e0 : Nat := 1073741824
def ls0 : LS := ⟨0, ByteArray.empty, false, false⟩
def lookM (bs : List UInt8) : Except Int LS :=
  match numL bs 1 e0 ls0 with
  | .error c => .error c
  | .ok (n, s) => if n ≠ 1 then .error eForm else someL bs 3 e0 anyQ (fun _ e' t => bodyL bs e' t) s
/-- the handshake's bytes; do they break -/
def partsG : Nat → List UInt8 → List UInt8 → List UInt8 × Bool
  | 0, out, _ => (out, false)
  | k + 1, out, b =>
    match b with
    | [] => (out, false)
    | c :: t =>
      if c ≠ 22 then (out, true)
      else if b.length < 5 then (out, false)
      else if b[1]? ≠ some 3 ∨ beN ((b.drop 3).take 2) < 1 ∨ 16384 < beN ((b.drop 3).take 2) then (out, true)
      else partsG k (out ++ (b.drop 5).take (beN ((b.drop 3).take 2))) ((b.drop 5).drop (beN ((b.drop 3).take 2)))
def partsL (b : List UInt8) : List UInt8 × Bool := partsG b.length [] b
def tellL (r : Except Int LS) (breaks : Bool) : Int × ByteArray :=
  match r with
  | .ok s => if s.named = true then (1, s.name) else (2, ByteArray.empty)
  | .error c => if c ≠ eShort ∨ breaks = true then (3, ByteArray.empty) else (0, ByteArray.empty)
def lookP (b : List UInt8) : Int × ByteArray := tellL (lookM (partsL b).1) (partsL b).2

/-! ### what was read stays -/
/-- more bytes behind tell the same, unless too few were there -/
def Stays {α : Type} (x y : Except Int α) : Prop := x = .error eShort ∨ y = x
theorem getL_stays (bs xs : List UInt8) (n : Nat) (s : LS) : Stays (getL bs n s) (getL (bs ++ xs) n s) := by
  unfold getL Stays
  split
  · exact .inl rfl
  · rename_i h
    right
    by_cases h0 : n = 0
    · subst h0; simp
    · rw [if_neg (by rw [List.length_append]; omega), List.drop_append, List.take_append]
      have : n - (bs.drop s.at_).length = 0 := by rw [List.length_drop]; omega
      rw [this]; simp
theorem numL_stays (bs xs : List UInt8) (size e : Nat) (s : LS) : Stays (numL bs size e s) (numL (bs ++ xs) size e s) := by
  unfold numL
  split
  · exact .inr rfl
  · rcases getL_stays bs xs size s with h | h
    · rw [h]; exact .inl rfl
    · rw [h]; exact .inr rfl
theorem someL_stays (bs xs : List UInt8) (size e : Nat) (okf : Nat → Nat → Bool) (f g : Nat → Nat → LS → Except Int LS) (hfg : ∀ n e' t, Stays (f n e' t) (g n e' t)) (s : LS) : Stays (someL bs size e okf f s) (someL (bs ++ xs) size e okf g s) := by
  unfold someL
  rcases numL_stays bs xs size e s with h | h
  · rw [h]; exact .inl rfl
  · rw [h]
    cases numL bs size e s with
    | error c => exact .inr rfl
    | ok p =>
      try dsimp only
      split
      · exact hfg _ _ _
      · exact .inr rfl
theorem skipL_stays (bs xs : List UInt8) (n e : Nat) (s : LS) : Stays (skipL bs n e s) (skipL (bs ++ xs) n e s) := by
  unfold skipL
  split
  · exact .inr rfl
  · rcases getL_stays bs xs n s with h | h
    · rw [h]; exact .inl rfl
    · rw [h]; exact .inr rfl
theorem nameL_stays (bs xs : List UInt8) (sort n : Nat) (s : LS) : Stays (nameL bs sort n s) (nameL (bs ++ xs) sort n s) := by
  unfold nameL
  rcases getL_stays bs xs n s with h | h
  · rw [h]; exact .inl rfl
  · rw [h]; exact .inr rfl
theorem listG_stays (bs xs : List UInt8) : ∀ (k e : Nat) (s : LS), Stays (listG bs k e s) (listG (bs ++ xs) k e s)
  | 0, e, s => .inr rfl
  | k + 1, e, s => by
    rw [listG, listG]
    split
    · exact .inr rfl
    · rcases numL_stays bs xs 1 e s with h | h
      · rw [h]; exact .inl rfl
      · rw [h]
        cases numL bs 1 e s with
        | error c => exact .inr rfl
        | ok p =>
          try dsimp only
          rcases someL_stays bs xs 2 e anyQ _ _ (fun n _ t => nameL_stays bs xs p.1 n t) p.2 with h | h
          · rw [h]; exact .inl rfl
          · rw [h]
            cases someL bs 2 e anyQ (fun n _ t => nameL bs p.1 n t) p.2 with
            | error c => exact .inr rfl
            | ok s2 => exact listG_stays bs xs k e s2
theorem extL_stays (bs xs : List UInt8) (kind n e : Nat) (s : LS) : Stays (extL bs kind n e s) (extL (bs ++ xs) kind n e s) := by
  unfold extL
  split
  · exact skipL_stays bs xs n e s
  · split
    · exact .inr rfl
    · exact someL_stays bs xs 2 e _ _ _ (fun _ e' t => listG_stays bs xs _ e' t) _
theorem extG_stays (bs xs : List UInt8) : ∀ (k e : Nat) (s : LS), Stays (extG bs k e s) (extG (bs ++ xs) k e s)
  | 0, e, s => .inr rfl
  | k + 1, e, s => by
    rw [extG, extG]
    split
    · exact .inr rfl
    · rcases numL_stays bs xs 2 e s with h | h
      · rw [h]; exact .inl rfl
      · rw [h]
        cases numL bs 2 e s with
        | error c => exact .inr rfl
        | ok p =>
          try dsimp only
          rcases someL_stays bs xs 2 e anyQ _ _ (fun n e' t => extL_stays bs xs p.1 n e' t) p.2 with h | h
          · rw [h]; exact .inl rfl
          · rw [h]
            cases someL bs 2 e anyQ (fun n e' t => extL bs p.1 n e' t) p.2 with
            | error c => exact .inr rfl
            | ok s2 => exact extG_stays bs xs k e s2
theorem stays_bind {x y : Except Int LS} {f g : LS → Except Int LS} (h : Stays x y) (hfg : ∀ s, Stays (f s) (g s)) :
    Stays (match (generalizing := false) x with | .error c => .error c | .ok s => f s) (match (generalizing := false) y with | .error c => .error c | .ok s => g s) := by
  rcases h with h | h
  · rw [h]; exact .inl rfl
  · rw [h]
    cases x with
    | error c => exact .inr rfl
    | ok s => exact hfg s
theorem bodyL_stays (bs xs : List UInt8) (e : Nat) (s : LS) : Stays (bodyL bs e s) (bodyL (bs ++ xs) e s) := by
  unfold bodyL
  refine stays_bind (skipL_stays bs xs 34 e s) fun s1 => ?_
  refine stays_bind (someL_stays bs xs 1 e _ _ _ (fun n e' t => skipL_stays bs xs n e' t) s1) fun s2 => ?_
  refine stays_bind (someL_stays bs xs 2 e _ _ _ (fun n e' t => skipL_stays bs xs n e' t) s2) fun s3 => ?_
  refine stays_bind (someL_stays bs xs 1 e _ _ _ (fun n e' t => skipL_stays bs xs n e' t) s3) fun s4 => ?_
  split
  · exact .inr rfl
  · exact someL_stays bs xs 2 e _ _ _ (fun _ e' t => extG_stays bs xs _ e' t) s4
theorem lookM_stays (bs xs : List UInt8) : Stays (lookM bs) (lookM (bs ++ xs)) := by
  unfold lookM
  rcases numL_stays bs xs 1 e0 ls0 with h | h
  · rw [h]; exact .inl rfl
  · rw [h]
    cases numL bs 1 e0 ls0 with
    | error c => exact .inr rfl
    | ok p =>
      try dsimp only
      split
      · exact .inr rfl
      · exact someL_stays bs xs 3 e0 _ _ _ (fun _ e' t => bodyL_stays bs xs e' t) _
/-- a record more or less of fuel -/
theorem partsG_fuel : ∀ (k m : Nat) (out b : List UInt8), b.length ≤ k → b.length ≤ m → partsG k out b = partsG m out b
  | 0, m, out, b, h, _ => by
    have : b = [] := List.eq_nil_of_length_eq_zero (by omega)
    subst this
    cases m <;> rfl
  | k + 1, 0, out, b, _, h => by
    have : b = [] := List.eq_nil_of_length_eq_zero (by omega)
    subst this
    rfl
  | k + 1, m + 1, out, b, h1, h2 => by
    cases b with
    | nil => rfl
    | cons c t =>
      rw [partsG, partsG]
      try dsimp only
      split
      · rfl
      · split
        · rfl
        · split
          · rfl
          · exact partsG_fuel k m _ _ (by simp only [List.length_drop, List.length_cons] at *; omega) (by simp only [List.length_drop, List.length_cons] at *; omega)
/-- more bytes behind: the handshake goes on -/
theorem partsG_more (x : List UInt8) : ∀ (k m : Nat) (out b : List UInt8), b.length ≤ k → (b ++ x).length ≤ m →
    (partsG k out b).2 = true ∧ partsG m out (b ++ x) = partsG k out b ∨ (partsG k out b).2 = false ∧ ∃ y, (partsG m out (b ++ x)).1 = (partsG k out b).1 ++ y
  | 0, m, out, b, h, _ => by
    have : b = [] := List.eq_nil_of_length_eq_zero (by omega)
    subst this
    right
    refine ⟨rfl, ?_⟩
    exact partsG_pre m out _
  | k + 1, m, out, [], h, _ => by
    right
    exact ⟨rfl, partsG_pre m out _⟩
  | k + 1, 0, out, c :: t, h, h2 => by simp at h2
  | k + 1, m + 1, out, c :: t, h, h2 => by
    rw [partsG]
    try dsimp only
    by_cases hc : c ≠ 22
    · left
      rw [if_pos hc]
      refine ⟨rfl, ?_⟩
      rw [List.cons_append, partsG]
      try dsimp only
      rw [if_pos hc]
    · rw [if_neg hc]
      by_cases h5 : (c :: t).length < 5
      · rw [if_pos h5]
        right
        exact ⟨rfl, partsG_pre _ out _⟩
      · rw [if_neg h5]
        have hb1 : (c :: t ++ x)[1]? = (c :: t)[1]? := List.getElem?_append_left (by omega)
        have hb3 : ((c :: t ++ x).drop 3).take 2 = ((c :: t).drop 3).take 2 := by
          rw [List.drop_append, List.take_append]
          have : 2 - ((c :: t).drop 3).length = 0 := by rw [List.length_drop]; omega
          rw [this]; simp
        have hl5 : ¬ (c :: t ++ x).length < 5 := by rw [List.length_append]; omega
        have hd5 : (c :: t ++ x).drop 5 = (c :: t).drop 5 ++ x := by
          rw [List.drop_append]
          have : 5 - (c :: t).length = 0 := by omega
          rw [this, List.drop_zero]
        have hm : partsG (m + 1) out (c :: t ++ x) = if (c :: t)[1]? ≠ some 3 ∨ beN (((c :: t).drop 3).take 2) < 1 ∨ 16384 < beN (((c :: t).drop 3).take 2) then (out, true) else partsG m (out ++ ((c :: t).drop 5 ++ x).take (beN (((c :: t).drop 3).take 2))) (((c :: t).drop 5 ++ x).drop (beN (((c :: t).drop 3).take 2))) := by
          rw [← hb1, ← hb3, ← hd5]
          rw [List.cons_append] at hl5 ⊢
          rw [partsG]
          try dsimp only
          rw [if_neg hc, if_neg hl5]
        rw [hm]
        generalize hn : beN (((c :: t).drop 3).take 2) = n
        by_cases h3 : (c :: t)[1]? ≠ some 3 ∨ n < 1 ∨ 16384 < n
        · rw [if_pos h3, if_pos h3]
          exact .inl ⟨rfl, rfl⟩
        · rw [if_neg h3, if_neg h3]
          by_cases hlong : n ≤ ((c :: t).drop 5).length
          · have e1 : ((c :: t).drop 5 ++ x).take n = ((c :: t).drop 5).take n := List.take_append_of_le_length hlong
            have e2 : ((c :: t).drop 5 ++ x).drop n = ((c :: t).drop 5).drop n ++ x := by rw [List.drop_append]; have : n - ((c :: t).drop 5).length = 0 := by omega
                                                                                          rw [this, List.drop_zero]
            rw [e1, e2]
            refine partsG_more x k m _ _ (by simp only [List.length_drop, List.length_cons] at *; omega) ?_
            simp only [List.length_append, List.length_drop, List.length_cons] at *
            omega
          · right
            have e1 : ((c :: t).drop 5).drop n = [] := List.drop_of_length_le (by omega)
            have e2 : ((c :: t).drop 5).take n = (c :: t).drop 5 := List.take_of_length_le (by omega)
            have e3 : ∀ j o, partsG j o [] = (o, false) := fun j o => by cases j <;> rfl
            rw [e1, e2, e3]
            refine ⟨rfl, ?_⟩
            obtain ⟨y, hy⟩ := partsG_pre m (out ++ ((c :: t).drop 5 ++ x).take n) (((c :: t).drop 5 ++ x).drop n)
            rw [hy]
            refine ⟨x.take (n - ((c :: t).drop 5).length) ++ y, ?_⟩
            rw [List.take_append, List.take_of_length_le (l := (c :: t).drop 5) (by omega)]
            simp only [List.append_assoc]
where
  partsG_pre : ∀ (m : Nat) (out b : List UInt8), ∃ y, (partsG m out b).1 = out ++ y
  | 0, out, b => ⟨[], by simp [partsG]⟩
  | m + 1, out, [] => ⟨[], by simp [partsG]⟩
  | m + 1, out, c :: t => by
    rw [partsG]
    try dsimp only
    split
    · exact ⟨[], by simp⟩
    · split
      · exact ⟨[], by simp⟩
      · split
        · exact ⟨[], by simp⟩
        · obtain ⟨y, hy⟩ := partsG_pre m (out ++ ((c :: t).drop 5).take (beN (((c :: t).drop 3).take 2))) (((c :: t).drop 5).drop (beN (((c :: t).drop 3).take 2)))
          exact ⟨((c :: t).drop 5).take (beN (((c :: t).drop 3).take 2)) ++ y, by rw [hy, List.append_assoc]⟩
/-- what is told, if not More, stays -/
theorem lookP_stays (b x : List UInt8) (h : (lookP b).1 ≠ 0) : lookP (b ++ x) = lookP b := by
  have hp := partsG_more x b.length (b ++ x).length [] b (Nat.le_refl _) (Nat.le_refl _)
  unfold lookP at *
  change _ ∧ partsL (b ++ x) = partsL b ∨ _ ∧ ∃ y, (partsL (b ++ x)).1 = (partsL b).1 ++ y at hp
  rcases hp with ⟨h1, h2⟩ | ⟨h1, y, h2⟩
  · rw [h2]
  · change (partsL b).2 = false at h1
    rw [h2]
    rw [h1] at h ⊢
    rcases lookM_stays (partsL b).1 y with h3 | h3
    · rw [h3] at h
      exact absurd rfl h
    · rw [h3]
      cases hm : lookM (partsL b).1 with
      | ok s => rfl
      | error c =>
        rw [hm] at h
        unfold tellL at *
        by_cases hc : c = eShort
        · subst hc; simp at h
        · simp [hc]
end Go.Proofs.YtpoheemjdieogaaGreatDoor
