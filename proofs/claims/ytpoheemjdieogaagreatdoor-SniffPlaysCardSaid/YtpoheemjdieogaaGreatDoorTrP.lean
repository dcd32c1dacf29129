/-
  The plain law of the document's tls.Look (culvertref21.Look): a state that is read on, total; and that it tells what lookP tells. No condition.
-/
import Derived.Test.YtpoheemjdieogaaGreatDoorTlsU
namespace Go.Proofs.YtpoheemjdieogaaGreatDoor
open Go.RowKit Go.Lib
set_option linter.unusedVariables false
set_option linter.unusedSimpArgs false

/-- how far; short; wrong; the name -/
structure RS where
  i : Nat
  sh : Bool
  wr : Bool
  name : ByteArray
  nd : Bool
def RS.over (s : RS) : Bool := s.sh || s.wr
def RS.bad (s : RS) : RS := { s with wr := true }
def RS.few (s : RS) : RS := { s with sh := true }
/-- wrong, if it is not over yet and the test fails -/
def RS.must (s : RS) (ok : Bool) : RS := if s.over = false ∧ ok = false then s.bad else s
def numR (bs : List UInt8) (size e : Nat) (s : RS) : Nat × RS :=
  if s.over = true then (0, s) else if e - s.i < size then (0, s.bad) else if bs.length - s.i < size then (0, s.few) else (beN ((bs.drop s.i).take size), { s with i := s.i + size })
def cntR (bs : List UInt8) (size e : Nat) (s : RS) : Nat × RS :=
  if (numR bs size e s).2.over = true then ((numR bs size e s).2.i, (numR bs size e s).2)
  else if e - (numR bs size e s).2.i < (numR bs size e s).1 then ((numR bs size e s).2.i, (numR bs size e s).2.bad)
  else ((numR bs size e s).2.i + (numR bs size e s).1, (numR bs size e s).2)
def passR (bs : List UInt8) (tt e : Nat) (s : RS) : RS :=
  if s.over = true then s else if e < tt then s.bad else if bs.length < tt then s.few else { s with i := tt }
/-- one name -/
def nameR (bs : List UInt8) (e : Nat) (s : RS) : RS :=
  let sort := (numR bs 1 e s).1
  let s1 := (numR bs 1 e s).2
  let tt := (cntR bs 2 e s1).1
  let s2 := (cntR bs 2 e s1).2
  let s3 := passR bs tt e s2
  if s3.over = true then s3 else
  if sort = 0 ∧ s3.nd = false then
    match foldA ((bs.drop s2.i).take (tt - s2.i)) with
    | none => s3.bad
    | some low => { s3 with name := ⟨low.toArray⟩, nd := true }
  else s3
def namesR (bs : List UInt8) : Nat → Nat → RS → RS
  | 0, _, s => s
  | k + 1, e, s => if s.over = true ∨ e ≤ s.i then s else namesR bs k e (nameR bs e s)
/-- one extension; whether there was a list ahead -/
def extR (bs : List UInt8) (e : Nat) (seen : Bool) (s : RS) : Bool × RS :=
  let kind := (numR bs 2 e s).1
  let s1 := (numR bs 2 e s).2
  let tt := (cntR bs 2 e s1).1
  let s2 := (cntR bs 2 e s1).2
  if s2.over = true then (seen, s2) else
  if kind ≠ 0 then (seen, passR bs tt e s2) else
  if seen = true then (seen, s2.bad) else
  let list := (cntR bs 2 tt s2).1
  let s3 := ((cntR bs 2 tt s2).2).must (decide (list = tt) && !decide (list = (cntR bs 2 tt s2).2.i))
  (true, namesR bs (tt - s3.i) tt s3)
def extsR (bs : List UInt8) : Nat → Nat → Bool → RS → RS
  | 0, _, _, s => s
  | k + 1, e, seen, s => if s.over = true ∨ e ≤ s.i ∨ s.nd = true then s else extsR bs k e (extR bs e seen s).1 (extR bs e seen s).2
/-- the parts of a hello, each of so many bytes -/
def partR (bs : List UInt8) (size e : Nat) (okf : Nat → Bool) (s : RS) : RS :=
  passR bs (cntR bs size e s).1 e ((cntR bs size e s).2.must (okf ((cntR bs size e s).1 - (cntR bs size e s).2.i)))
def bodyR (bs : List UInt8) (e : Nat) (s2 : RS) : RS :=
  let s3 := passR bs (s2.i + 34) e s2
  let s4 := partR bs 1 e (fun n => decide (n ≤ 32)) s3
  let s5 := partR bs 2 e (fun n => decide (2 ≤ n ∧ n % 2 = 0)) s4
  let s6 := partR bs 1 e (fun n => decide (1 ≤ n)) s5
  if s6.over = true ∨ s6.i = e then s6 else
  let s7 := (cntR bs 2 e s6).2.must (decide ((cntR bs 2 e s6).1 = e))
  extsR bs (e - s7.i) e false s7
def rs0 : RS := ⟨0, false, false, ByteArray.empty, false⟩
def helloR (bs : List UInt8) : RS :=
  let s1 := (numR bs 1 e0 rs0).2.must (decide ((numR bs 1 e0 rs0).1 = 1))
  bodyR bs (cntR bs 3 e0 s1).1 (cntR bs 3 e0 s1).2
def tellR (s : RS) (breaks : Bool) : Int × ByteArray :=
  if s.wr = true then (3, ByteArray.empty) else if s.sh = false ∧ s.nd = true then (1, s.name) else if s.sh = false then (2, ByteArray.empty) else if breaks = true then (3, ByteArray.empty) else (0, ByteArray.empty)
/-! the same as the program's -/
def LS.toR (s : LS) : RS := ⟨s.at_, false, false, s.name, s.named⟩
/-- a reading that went on, or gave up -/
def Corr (x : Except Int LS) (t : RS) : Prop := match x with
  | .ok s => t = s.toR
  | .error c => (c = eShort ∧ t.sh = true ∧ t.wr = false) ∨ (c = eForm ∧ t.sh = false ∧ t.wr = true)
theorem Corr.over {c : Int} {t : RS} (h : Corr (.error c) t) : t.over = true := by
  rcases h with ⟨_, h1, h2⟩ | ⟨_, h1, h2⟩ <;> simp [RS.over, h1, h2]
theorem toR_over (s : LS) : s.toR.over = false := rfl
theorem numR_over {bs : List UInt8} {size e : Nat} {s : RS} (h : s.over = true) : numR bs size e s = (0, s) := if_pos h
theorem cntR_over {bs : List UInt8} {size e : Nat} {s : RS} (h : s.over = true) : cntR bs size e s = (s.i, s) := by unfold cntR; rw [numR_over h, if_pos h]
theorem passR_over {bs : List UInt8} {tt e : Nat} {s : RS} (h : s.over = true) : passR bs tt e s = s := if_pos h
theorem must_over {ok : Bool} {s : RS} (h : s.over = true) : s.must ok = s := by unfold RS.must; rw [if_neg (by simp [h])]
theorem must_ok {s : RS} : s.must true = s := by unfold RS.must; rw [if_neg (by simp)]
theorem must_no {s : LS} : s.toR.must false = s.toR.bad := if_pos ⟨rfl, rfl⟩
theorem partR_over {bs : List UInt8} {size e : Nat} {okf : Nat → Bool} {s : RS} (h : s.over = true) : partR bs size e okf s = s := by
  unfold partR; rw [cntR_over h, must_over h, passR_over h]
theorem corr_bad (s : LS) : Corr (.error eForm) s.toR.bad := .inr ⟨rfl, rfl, rfl⟩
theorem corr_few (s : LS) : Corr (.error eShort) s.toR.few := .inl ⟨rfl, rfl, rfl⟩
theorem numL_eq (bs : List UInt8) (size e : Nat) (s : LS) : numL bs size e s = if e - s.at_ < size then .error eForm else if bs.length - s.at_ < size then .error eShort else .ok (beN ((bs.drop s.at_).take size), { s with at_ := s.at_ + size }) := by
  unfold numL getL
  by_cases h1 : e - s.at_ < size
  · rw [if_pos h1, if_pos h1]
  · rw [if_neg h1, if_neg h1]
    by_cases h2 : bs.length - s.at_ < size
    · rw [if_pos h2, if_pos h2]
    · rw [if_neg h2, if_neg h2]
theorem numR_eq (bs : List UInt8) (size e : Nat) (s : LS) : numR bs size e s.toR = if e - s.at_ < size then (0, s.toR.bad) else if bs.length - s.at_ < size then (0, s.toR.few) else (beN ((bs.drop s.at_).take size), LS.toR { s with at_ := s.at_ + size }) := if_neg (by simp [toR_over])
/-- a number -/
theorem num_corr (bs : List UInt8) (size e : Nat) (s : LS) : match numL bs size e s with
    | .error c => Corr (.error c) (numR bs size e s.toR).2
    | .ok (n, s') => numR bs size e s.toR = (n, s'.toR) := by
  rw [numL_eq, numR_eq]
  by_cases h1 : e - s.at_ < size
  · rw [if_pos h1, if_pos h1]
    exact corr_bad s
  · rw [if_neg h1, if_neg h1]
    by_cases h2 : bs.length - s.at_ < size
    · rw [if_pos h2, if_pos h2]
      exact corr_few s
    · rw [if_neg h2, if_neg h2]
theorem numL_in {bs : List UInt8} {size e n : Nat} {s s' : LS} (h : numL bs size e s = .ok (n, s')) (hs : 1 ≤ size) : s'.at_ = s.at_ + size ∧ s'.at_ ≤ e ∧ s'.at_ ≤ bs.length ∧ s'.named = s.named ∧ s'.name = s.name ∧ s'.seen = s.seen := by
  unfold numL getL at h
  by_cases h1 : e - s.at_ < size
  · rw [if_pos h1] at h; cases h
  · rw [if_neg h1] at h
    by_cases h2 : bs.length - s.at_ < size
    · rw [if_pos h2] at h; cases h
    · rw [if_neg h2] at h
      injection h with h
      injection h with h3 h4
      subst h4
      exact ⟨rfl, by show s.at_ + size ≤ e; omega, by show s.at_ + size ≤ bs.length; omega, rfl, rfl, rfl⟩
/-- how many -/
theorem cnt_err {bs : List UInt8} {size e : Nat} {s : LS} {c : Int} (h : numL bs size e s = .error c) : Corr (.error c) (cntR bs size e s.toR).2 := by
  have h1 := num_corr bs size e s
  rw [h] at h1
  have h2 : (numR bs size e s.toR).2.over = true := Corr.over h1
  unfold cntR
  rw [if_pos h2]
  exact h1
theorem cnt_ok {bs : List UInt8} {size e n : Nat} {s s' : LS} (h : numL bs size e s = .ok (n, s')) (hn : n ≤ e - s'.at_) : cntR bs size e s.toR = (s'.at_ + n, s'.toR) := by
  have h1 := num_corr bs size e s
  rw [h] at h1
  unfold cntR
  rw [h1, if_neg (by simp [toR_over]), if_neg (by show ¬ e - s'.at_ < n; omega)]
  rfl
theorem cnt_no {bs : List UInt8} {size e n : Nat} {s s' : LS} (h : numL bs size e s = .ok (n, s')) (hn : ¬ n ≤ e - s'.at_) : (cntR bs size e s.toR).2 = s'.toR.bad := by
  have h1 := num_corr bs size e s
  rw [h] at h1
  unfold cntR
  rw [h1, if_neg (by simp [toR_over]), if_pos (by show e - s'.at_ < n; omega)]
theorem some_err {bs : List UInt8} {size e : Nat} {okf : Nat → Nat → Bool} {f : Nat → Nat → LS → Except Int LS} {s : LS} {c : Int} (h : numL bs size e s = .error c) : someL bs size e okf f s = .error c := by
  unfold someL; rw [h]
theorem some_ok {bs : List UInt8} {size e n : Nat} {okf : Nat → Nat → Bool} {f : Nat → Nat → LS → Except Int LS} {s s' : LS} (h : numL bs size e s = .ok (n, s')) (hn : n ≤ e - s'.at_) : someL bs size e okf f s = if okf n (e - s'.at_) = true then f n (s'.at_ + n) s' else .error eForm := by
  unfold someL
  rw [h]
  show (if okf n (e - s'.at_) = true ∧ n ≤ e - s'.at_ then _ else _) = _
  by_cases h1 : okf n (e - s'.at_) = true
  · rw [if_pos ⟨h1, hn⟩, if_pos h1]
  · rw [if_neg (fun h => h1 h.1), if_neg h1]
theorem some_no {bs : List UInt8} {size e n : Nat} {okf : Nat → Nat → Bool} {f : Nat → Nat → LS → Except Int LS} {s s' : LS} (h : numL bs size e s = .ok (n, s')) (hn : ¬ n ≤ e - s'.at_) : someL bs size e okf f s = .error eForm := by
  unfold someL
  rw [h]
  exact if_neg (fun h => hn h.2)
/-- bytes gone through -/
theorem pass_skip (bs : List UInt8) (n e : Nat) (s : LS) (h : s.at_ + n ≤ e) (hb : s.at_ ≤ bs.length) : Corr (skipL bs n (s.at_ + n) s) (passR bs (s.at_ + n) e s.toR) := by
  have e1 : skipL bs n (s.at_ + n) s = if bs.length - s.at_ < n then .error eShort else .ok { s with at_ := s.at_ + n } := by
    unfold skipL getL
    rw [if_neg (show ¬ s.at_ + n - s.at_ < n by omega)]
    by_cases h1 : bs.length - s.at_ < n
    · rw [if_pos h1, if_pos h1]
    · rw [if_neg h1, if_neg h1]
  have e2 : passR bs (s.at_ + n) e s.toR = if bs.length < s.at_ + n then s.toR.few else LS.toR { s with at_ := s.at_ + n } := by
    unfold passR
    rw [if_neg (show ¬ s.toR.over = true by simp [toR_over]), if_neg (show ¬ e < s.at_ + n by omega)]
    rfl
  rw [e1, e2]
  by_cases h1 : bs.length - s.at_ < n
  · rw [if_pos h1, if_pos (show bs.length < s.at_ + n by omega)]; exact corr_few s
  · rw [if_neg h1, if_neg (show ¬ bs.length < s.at_ + n by omega)]; rfl
theorem part_corr (bs : List UInt8) (size e : Nat) (okf : Nat → Bool) (s : LS) (hs : 1 ≤ size) : Corr (someL bs size e (fun n _ => okf n) (fun n e' t => skipL bs n e' t) s) (partR bs size e okf s.toR) := by
  cases hn : numL bs size e s with
  | error c =>
    rw [some_err hn]
    have h1 := cnt_err hn
    unfold partR
    rw [must_over (Corr.over h1), passR_over (Corr.over h1)]
    exact h1
  | ok y =>
    obtain ⟨n, s'⟩ := y
    obtain ⟨_, g2, g3, _⟩ := numL_in hn hs
    by_cases h1 : n ≤ e - s'.at_
    · rw [some_ok hn h1]
      unfold partR
      rw [cnt_ok hn h1]
      show Corr _ (passR bs (s'.at_ + n) e (s'.toR.must (okf (s'.at_ + n - s'.at_))))
      rw [Nat.add_sub_cancel_left]
      cases hok : okf n with
      | true =>
        rw [if_pos rfl, must_ok]
        exact pass_skip bs n e s' (by omega) g3
      | false =>
        rw [if_neg (by simp), must_no, passR_over (by rfl)]
        exact corr_bad s'
    · rw [some_no hn h1]
      unfold partR
      have h2 := cnt_no hn h1
      rw [h2, must_over (by rfl), passR_over (by rfl)]
      exact corr_bad s'
/-- one name -/
theorem name_corr (bs : List UInt8) (e : Nat) (s : LS) : Corr (match numL bs 1 e s with
    | .error c => .error c
    | .ok (sort, s1) => someL bs 2 e anyQ (fun n _ t => nameL bs sort n t) s1) (nameR bs e s.toR) := by
  cases hn : numL bs 1 e s with
  | error c =>
    have h1 := num_corr bs 1 e s
    rw [hn] at h1
    have h2 := Corr.over h1
    show Corr (.error c) _
    unfold nameR
    dsimp only
    rw [cntR_over h2, passR_over h2, if_pos h2]
    exact h1
  | ok y =>
    obtain ⟨sort, s1⟩ := y
    have h1 := num_corr bs 1 e s
    rw [hn] at h1
    show Corr (someL bs 2 e anyQ (fun n _ t => nameL bs sort n t) s1) _
    unfold nameR
    dsimp only
    rw [h1]
    dsimp only
    cases hm : numL bs 2 e s1 with
    | error c =>
      have h2 := cnt_err hm
      rw [some_err hm, passR_over (Corr.over h2), if_pos (Corr.over h2)]
      exact h2
    | ok z =>
      obtain ⟨n, s2⟩ := z
      obtain ⟨_, g2, g3, g4, g5, g6⟩ := numL_in hm (by omega)
      by_cases hle : n ≤ e - s2.at_
      · rw [some_ok hm hle, if_pos (show anyQ n (e - s2.at_) = true from rfl), cnt_ok hm hle]
        show Corr (nameL bs sort n s2) _
        dsimp only
        unfold nameL getL
        by_cases hsh : bs.length - s2.at_ < n
        · have e1 : passR bs (s2.at_ + n) e s2.toR = s2.toR.few := by
            unfold passR; rw [if_neg (by simp [toR_over]), if_neg (by omega), if_pos (by omega)]
          rw [if_pos hsh, e1, if_pos (by rfl)]
          exact corr_few s2
        · have e1 : passR bs (s2.at_ + n) e s2.toR = LS.toR { s2 with at_ := s2.at_ + n } := by
            unfold passR; rw [if_neg (by simp [toR_over]), if_neg (by omega), if_neg (by omega)]; rfl
          rw [if_neg hsh, e1, if_neg (by simp [toR_over])]
          dsimp only
          have e2 : s2.at_ + n - s2.toR.i = n := by show s2.at_ + n - s2.at_ = n; omega
          rw [e2]
          show Corr (if sort ≠ 0 ∨ s2.named = true then _ else _) (if sort = 0 ∧ s2.named = false then _ else _)
          by_cases hc : sort = 0 ∧ s2.named = false
          · rw [if_neg (by rintro (h | h); exact h hc.1; rw [hc.2] at h; cases h), if_pos hc]
            show Corr (match foldA ((bs.drop s2.at_).take n) with | none => _ | some low => _) (match foldA ((bs.drop s2.at_).take n) with | none => _ | some low => _)
            cases foldA ((bs.drop s2.at_).take n) with
            | none => exact corr_bad _
            | some low => rfl
          · rw [if_neg hc, if_pos (by
              by_cases hs0 : sort = 0
              · right
                cases hnn : s2.named with
                | true => rfl
                | false => exact absurd ⟨hs0, hnn⟩ hc
              · exact .inl hs0)]
            rfl
      · have h2 := cnt_no hm hle
        rw [some_no hm hle, h2, passR_over (by rfl), if_pos (by rfl)]
        exact corr_bad s2
theorem namesR_over {bs : List UInt8} {k e : Nat} {s : RS} (h : s.over = true) : namesR bs k e s = s := by
  cases k with
  | zero => rfl
  | succ k => rw [namesR, if_pos (.inl h)]
theorem names_corr (bs : List UInt8) : ∀ (k e : Nat) (s : LS), Corr (listG bs k e s) (namesR bs k e s.toR)
  | 0, e, s => rfl
  | k + 1, e, s => by
    rw [listG, namesR]
    by_cases h0 : e ≤ s.at_
    · rw [if_pos h0, if_pos (.inr h0)]; rfl
    · rw [if_neg h0, if_neg (by rintro (h | h); cases h; exact h0 h)]
      have hc := name_corr bs e s
      cases hn : numL bs 1 e s with
      | error c =>
        rw [hn] at hc
        have hc : Corr (.error c) (nameR bs e s.toR) := hc
        rw [namesR_over (Corr.over hc)]
        exact hc
      | ok y =>
        obtain ⟨sort, s1⟩ := y
        rw [hn] at hc
        have hc : Corr (someL bs 2 e anyQ (fun n _ t => nameL bs sort n t) s1) (nameR bs e s.toR) := hc
        show Corr (match someL bs 2 e anyQ (fun n _ t => nameL bs sort n t) s1 with | .error c => _ | .ok s2 => _) _
        cases hs : someL bs 2 e anyQ (fun n _ t => nameL bs sort n t) s1 with
        | error c =>
          rw [hs] at hc
          rw [namesR_over (Corr.over hc)]
          exact hc
        | ok s2 =>
          rw [hs] at hc
          rw [show nameR bs e s.toR = s2.toR from hc]
          exact names_corr bs k e s2
theorem getL_seen {bs : List UInt8} {n : Nat} {s s' : LS} {b : List UInt8} (h : getL bs n s = .ok (b, s')) : s'.seen = s.seen := by
  unfold getL at h
  by_cases h1 : bs.length - s.at_ < n
  · rw [if_pos h1] at h; cases h
  · rw [if_neg h1] at h
    injection h with h
    injection h with _ h
    subst h
    rfl
theorem nameL_seen {bs : List UInt8} {sort n : Nat} {s s' : LS} (h : nameL bs sort n s = .ok s') : s'.seen = s.seen := by
  unfold nameL at h
  cases hg : getL bs n s with
  | error c => rw [hg] at h; cases h
  | ok p =>
    obtain ⟨b, s1⟩ := p
    have h2 := getL_seen hg
    rw [hg] at h
    simp only at h
    split at h
    · injection h with h; subst h; exact h2
    · split at h
      · cases h
      · injection h with h; subst h; exact h2
theorem listG_seen {bs : List UInt8} : ∀ (k e : Nat) {s s' : LS}, listG bs k e s = .ok s' → s'.seen = s.seen
  | 0, e, s, s', h => by rw [listG] at h; injection h with h; subst h; rfl
  | k + 1, e, s, s', h => by
    rw [listG] at h
    by_cases h0 : e ≤ s.at_
    · rw [if_pos h0] at h; injection h with h; subst h; rfl
    · rw [if_neg h0] at h
      cases hn : numL bs 1 e s with
      | error c => rw [hn] at h; cases h
      | ok y =>
        obtain ⟨sort, s1⟩ := y
        rw [hn] at h
        have h3 := (numL_in hn (by omega)).2.2.2.2.2
        have h : (match someL bs 2 e anyQ (fun n _ t => nameL bs sort n t) s1 with | .error c => .error c | .ok s2 => listG bs k e s2) = Except.ok s' := h
        cases hm : numL bs 2 e s1 with
        | error c => rw [some_err hm] at h; cases h
        | ok z =>
          obtain ⟨n, s2⟩ := z
          have h4 := (numL_in hm (by omega)).2.2.2.2.2
          by_cases hle : n ≤ e - s2.at_
          · rw [some_ok hm hle, if_pos (show anyQ n (e - s2.at_) = true from rfl)] at h
            cases hx : nameL bs sort n s2 with
            | error c => rw [hx] at h; cases h
            | ok s5 =>
              rw [hx] at h
              have := listG_seen k e h
              rw [this, nameL_seen hx, h4, h3]
          · rw [some_no hm hle] at h; cases h
def Corr2 (x : Except Int LS) (t : Bool × RS) : Prop := Corr x t.2 ∧ ∀ s, x = .ok s → t.1 = s.seen
theorem Corr2.err {c : Int} {b : Bool} {t : RS} (h : Corr (.error c) t) : Corr2 (.error c) (b, t) := ⟨h, fun s h => by cases h⟩
theorem ext_corr (bs : List UInt8) (e : Nat) (s : LS) : Corr2 (match numL bs 2 e s with
    | .error c => .error c
    | .ok (kind, s1) => someL bs 2 e anyQ (fun n e' t => extL bs kind n e' t) s1) (extR bs e s.seen s.toR) := by
  cases hn : numL bs 2 e s with
  | error c =>
    have h1 := num_corr bs 2 e s
    rw [hn] at h1
    have h2 := Corr.over h1
    show Corr2 (.error c) _
    unfold extR
    dsimp only
    rw [cntR_over h2, if_pos h2]
    exact Corr2.err h1
  | ok y =>
    obtain ⟨kind, s1⟩ := y
    have h1 := num_corr bs 2 e s
    rw [hn] at h1
    have hse := (numL_in hn (by omega)).2.2.2.2.2
    show Corr2 (someL bs 2 e anyQ (fun n e' t => extL bs kind n e' t) s1) _
    unfold extR
    dsimp only
    rw [h1]
    dsimp only
    cases hm : numL bs 2 e s1 with
    | error c =>
      have h2 := cnt_err hm
      rw [some_err hm, if_pos (Corr.over h2)]
      exact Corr2.err h2
    | ok z =>
      obtain ⟨n, s2⟩ := z
      obtain ⟨_, g2, g3, g4, g5, g6⟩ := numL_in hm (by omega)
      by_cases hle : n ≤ e - s2.at_
      · rw [some_ok hm hle, if_pos (show anyQ n (e - s2.at_) = true from rfl), cnt_ok hm hle]
        show Corr2 (extL bs kind n (s2.at_ + n) s2) _
        dsimp only
        rw [if_neg (show ¬ s2.toR.over = true by simp [toR_over])]
        unfold extL
        by_cases hk : kind ≠ 0
        · rw [if_pos hk, if_pos hk]
          refine ⟨pass_skip bs n e s2 (by omega) g3, fun s' hs' => ?_⟩
          unfold skipL at hs'
          rw [if_neg (by omega)] at hs'
          cases hg : getL bs n s2 with
          | error c => rw [hg] at hs'; cases hs'
          | ok p =>
            obtain ⟨b, s5⟩ := p
            have h5 := getL_seen hg
            rw [hg] at hs'
            injection hs' with hs'
            subst hs'
            show s.seen = _
            rw [h5, g6, hse]
        · rw [if_neg hk, if_neg hk]
          have hss : s2.seen = s.seen := by rw [g6, hse]
          rw [← hss]
          by_cases hsn : s2.seen = true
          · rw [if_pos hsn, if_pos hsn]
            exact Corr2.err (corr_bad s2)
          · rw [if_neg hsn, if_neg hsn]
            obtain ⟨s3, hs3⟩ : ∃ s3, ({ s2 with seen := true } : LS) = s3 := ⟨_, rfl⟩
            have e3 : s2.toR = s3.toR := by rw [← hs3]; rfl
            have e4 : s3.at_ = s2.at_ := by rw [← hs3]
            have e5 : s3.seen = true := by rw [← hs3]
            rw [hs3, e3]
            cases hq : numL bs 2 (s2.at_ + n) s3 with
            | error c =>
              have h2 := cnt_err hq
              rw [some_err hq, must_over (Corr.over h2), namesR_over (Corr.over h2)]
              exact Corr2.err h2
            | ok zz =>
              obtain ⟨k, s4⟩ := zz
              obtain ⟨f1, f2, f3, f4, f5, f6⟩ := numL_in hq (by omega)
              by_cases hk4 : k ≤ s2.at_ + n - s4.at_
              · rw [some_ok hq hk4, cnt_ok hq hk4]
                dsimp only
                have hdec : decide (0 < k ∧ (k : Int) = (n : Int) - 2) = (decide (s4.at_ + k = s2.at_ + n) && !decide (s4.at_ + k = s4.toR.i)) := by
                  show _ = (decide (s4.at_ + k = s2.at_ + n) && !decide (s4.at_ + k = s4.at_))
                  by_cases hz : 0 < k ∧ (k : Int) = (n : Int) - 2
                  · rw [decide_eq_true hz, decide_eq_true (by omega), decide_eq_false (by omega)]; rfl
                  · rw [decide_eq_false hz]
                    by_cases hz2 : s4.at_ + k = s2.at_ + n
                    · rw [decide_eq_true hz2, decide_eq_true (by omega)]; rfl
                    · rw [decide_eq_false hz2]; rfl
                rw [← hdec]
                cases hd : decide (0 < k ∧ (k : Int) = (n : Int) - 2) with
                | true =>
                  rw [if_pos rfl, must_ok]
                  have hkn := of_decide_eq_true hd
                  have e6 : s2.at_ + n = s4.at_ + k := by omega
                  unfold listL
                  rw [e6]
                  refine ⟨names_corr bs _ _ s4, fun s' hs' => ?_⟩
                  rw [listG_seen _ _ hs', f6, e5]
                | false =>
                  rw [if_neg (by simp), must_no, namesR_over (by rfl)]
                  exact Corr2.err (corr_bad s4)
              · have h2 := cnt_no hq hk4
                rw [some_no hq hk4, h2, must_over (by rfl), namesR_over (by rfl)]
                exact Corr2.err (corr_bad s4)
      · have h2 := cnt_no hm hle
        rw [some_no hm hle, h2, if_pos (by rfl)]
        exact Corr2.err (corr_bad s2)
theorem extsR_over {bs : List UInt8} {k e : Nat} {b : Bool} {s : RS} (h : s.over = true) : extsR bs k e b s = s := by
  cases k with
  | zero => rfl
  | succ k => rw [extsR, if_pos (.inl h)]
theorem exts_corr (bs : List UInt8) : ∀ (k e : Nat) (s : LS), Corr (extG bs k e s) (extsR bs k e s.seen s.toR)
  | 0, e, s => rfl
  | k + 1, e, s => by
    rw [extG, extsR]
    by_cases h0 : e ≤ s.at_ ∨ s.named = true
    · rw [if_pos h0, if_pos (.inr h0)]; rfl
    · rw [if_neg h0, if_neg (by rintro (h | h); cases h; exact h0 h)]
      have hc := ext_corr bs e s
      cases hn : numL bs 2 e s with
      | error c =>
        rw [hn] at hc
        have hc : Corr2 (.error c) (extR bs e s.seen s.toR) := hc
        rw [extsR_over (Corr.over hc.1)]
        exact hc.1
      | ok y =>
        obtain ⟨kind, s1⟩ := y
        rw [hn] at hc
        have hc : Corr2 (someL bs 2 e anyQ (fun n e' t => extL bs kind n e' t) s1) (extR bs e s.seen s.toR) := hc
        show Corr (match someL bs 2 e anyQ (fun n e' t => extL bs kind n e' t) s1 with | .error c => _ | .ok s2 => _) _
        cases hs : someL bs 2 e anyQ (fun n e' t => extL bs kind n e' t) s1 with
        | error c =>
          rw [hs] at hc
          rw [extsR_over (Corr.over hc.1)]
          exact hc.1
        | ok s2 =>
          rw [hs] at hc
          rw [show (extR bs e s.seen s.toR).2 = s2.toR from hc.1, hc.2 s2 rfl]
          exact exts_corr bs k e s2
theorem bodyR_over {bs : List UInt8} {e : Nat} {s : RS} (h : s.over = true) : bodyR bs e s = s := by
  unfold bodyR
  dsimp only
  rw [passR_over h, partR_over h, partR_over h, partR_over h, if_pos (.inl h)]
theorem pass_skip2 (bs : List UInt8) (n e : Nat) (s : LS) (hn : 1 ≤ n) : Corr (skipL bs n e s) (passR bs (s.at_ + n) e s.toR) := by
  by_cases h : e - s.at_ < n
  · have e1 : skipL bs n e s = .error eForm := if_pos h
    have e2 : passR bs (s.at_ + n) e s.toR = s.toR.bad := by
      unfold passR
      rw [if_neg (show ¬ s.toR.over = true by simp [toR_over]), if_pos (show e < s.at_ + n by omega)]
    rw [e1, e2]; exact corr_bad s
  · have e1 : skipL bs n e s = if bs.length - s.at_ < n then .error eShort else .ok { s with at_ := s.at_ + n } := by
      unfold skipL getL
      rw [if_neg h]
      by_cases h1 : bs.length - s.at_ < n
      · rw [if_pos h1, if_pos h1]
      · rw [if_neg h1, if_neg h1]
    have e2 : passR bs (s.at_ + n) e s.toR = if bs.length < s.at_ + n then s.toR.few else LS.toR { s with at_ := s.at_ + n } := by
      unfold passR
      rw [if_neg (show ¬ s.toR.over = true by simp [toR_over]), if_neg (show ¬ e < s.at_ + n by omega)]
      rfl
    rw [e1, e2]
    by_cases h1 : bs.length - s.at_ < n
    · rw [if_pos h1, if_pos (show bs.length < s.at_ + n by omega)]; exact corr_few s
    · rw [if_neg h1, if_neg (show ¬ bs.length < s.at_ + n by omega)]; rfl
theorem skipL_seen {bs : List UInt8} {n e : Nat} {s s' : LS} (h : skipL bs n e s = .ok s') : s'.seen = s.seen := by
  unfold skipL at h
  by_cases h1 : e - s.at_ < n
  · rw [if_pos h1] at h; cases h
  · rw [if_neg h1] at h
    cases hg : getL bs n s with
    | error c => rw [hg] at h; cases h
    | ok p =>
      obtain ⟨b, s1⟩ := p
      rw [hg] at h
      injection h with h
      subst h
      exact getL_seen hg
theorem part_seen {bs : List UInt8} {size e : Nat} {okf : Nat → Bool} {s s' : LS} (hs : 1 ≤ size) (h : someL bs size e (fun n _ => okf n) (fun n e' t => skipL bs n e' t) s = .ok s') : s'.seen = s.seen := by
  cases hn : numL bs size e s with
  | error c => rw [some_err hn] at h; cases h
  | ok y =>
    obtain ⟨n, s1⟩ := y
    have h3 := (numL_in hn hs).2.2.2.2.2
    by_cases hle : n ≤ e - s1.at_
    · rw [some_ok hn hle] at h
      cases hok : okf n with
      | false => rw [hok, if_neg (by simp)] at h; cases h
      | true =>
        rw [hok, if_pos rfl] at h
        rw [skipL_seen h, h3]
    · rw [some_no hn hle] at h; cases h
theorem part_le {bs : List UInt8} {size e : Nat} {okf : Nat → Bool} {s : RS} {s' : LS} (h : partR bs size e okf s = s'.toR) : s'.at_ ≤ e := by
  unfold partR passR at h
  split at h
  · rename_i ho
    rw [h] at ho
    simp [toR_over] at ho
  · split at h
    · have := congrArg RS.wr h
      simp [RS.bad, LS.toR] at this
    · split at h
      · have := congrArg RS.sh h
        simp [RS.few, LS.toR] at this
      · have := congrArg RS.i h
        simp only [LS.toR] at this
        omega
theorem body_corr (bs : List UInt8) (e : Nat) (s : LS) (hse : s.seen = false) : Corr (bodyL bs e s) (bodyR bs e s.toR) := by
  unfold bodyL bodyR
  dsimp only
  have c3 := pass_skip2 bs 34 e s (by omega)
  cases h3 : skipL bs 34 e s with
  | error c =>
    rw [h3] at c3
    have o := Corr.over c3
    show Corr (.error c) _
    rw [show passR bs (s.toR.i + 34) e s.toR = passR bs (s.at_ + 34) e s.toR from rfl, partR_over o, partR_over o, partR_over o, if_pos (.inl o)]
    exact c3
  | ok s3 =>
    rw [h3] at c3
    have q3 := skipL_seen h3
    rw [show passR bs (s.toR.i + 34) e s.toR = s3.toR from c3]
    have c4 := part_corr bs 1 e (fun n => decide (n ≤ 32)) s3 (by omega)
    show Corr (match someL bs 1 e (fun n _ => decide (n ≤ 32)) (fun n e' t => skipL bs n e' t) s3 with | .error c => .error c | .ok s2 => _) _
    cases h4 : someL bs 1 e (fun n _ => decide (n ≤ 32)) (fun n e' t => skipL bs n e' t) s3 with
    | error c =>
      rw [h4] at c4
      have o := Corr.over c4
      rw [partR_over o, partR_over o, if_pos (.inl o)]
      exact c4
    | ok s4 =>
      rw [h4] at c4
      have q4 := part_seen (by omega) h4
      rw [show partR bs 1 e (fun n => decide (n ≤ 32)) s3.toR = s4.toR from c4]
      have c5 := part_corr bs 2 e (fun n => decide (2 ≤ n ∧ n % 2 = 0)) s4 (by omega)
      show Corr (match someL bs 2 e (fun n _ => decide (2 ≤ n ∧ n % 2 = 0)) (fun n e' t => skipL bs n e' t) s4 with | .error c => .error c | .ok s2 => _) _
      cases h5 : someL bs 2 e (fun n _ => decide (2 ≤ n ∧ n % 2 = 0)) (fun n e' t => skipL bs n e' t) s4 with
      | error c =>
        rw [h5] at c5
        have o := Corr.over c5
        rw [partR_over o, if_pos (.inl o)]
        exact c5
      | ok s5 =>
        rw [h5] at c5
        have q5 := part_seen (by omega) h5
        rw [show partR bs 2 e (fun n => decide (2 ≤ n ∧ n % 2 = 0)) s4.toR = s5.toR from c5]
        have c6 := part_corr bs 1 e (fun n => decide (1 ≤ n)) s5 (by omega)
        show Corr (match someL bs 1 e (fun n _ => decide (1 ≤ n)) (fun n e' t => skipL bs n e' t) s5 with | .error c => .error c | .ok s2 => _) _
        cases h6 : someL bs 1 e (fun n _ => decide (1 ≤ n)) (fun n e' t => skipL bs n e' t) s5 with
        | error c =>
          rw [h6] at c6
          have o := Corr.over c6
          rw [if_pos (.inl o)]
          exact c6
        | ok s6 =>
          rw [h6] at c6
          have q6 := part_seen (by omega) h6
          have e6 : partR bs 1 e (fun n => decide (1 ≤ n)) s5.toR = s6.toR := c6
          have l6 := part_le e6
          have hz : s6.seen = false := by rw [q6, q5, q4, q3, hse]
          rw [e6]
          show Corr (if e ≤ s6.at_ then .ok s6 else _) _
          by_cases hE : e ≤ s6.at_
          · rw [if_pos hE, if_pos (.inr (show s6.at_ = e by omega))]; rfl
          · rw [if_neg hE, if_neg (by rintro (h | h); cases h; exact hE (by have h : s6.at_ = e := h; omega))]
            cases h7 : numL bs 2 e s6 with
            | error c =>
              have c7 := cnt_err h7
              rw [some_err h7, must_over (Corr.over c7), extsR_over (Corr.over c7)]
              exact c7
            | ok y =>
              obtain ⟨n, s7⟩ := y
              obtain ⟨_, g2, g3, g4, g5, g6⟩ := numL_in h7 (by omega)
              by_cases hle : n ≤ e - s7.at_
              · rw [some_ok h7 hle, cnt_ok h7 hle]
                show Corr (if decide (n = e - s7.at_) = true then _ else _) (extsR bs (e - (s7.toR.must (decide (s7.at_ + n = e))).i) e false (s7.toR.must (decide (s7.at_ + n = e))))
                by_cases hn : n = e - s7.at_
                · rw [decide_eq_true hn, if_pos rfl, decide_eq_true (show s7.at_ + n = e by omega), must_ok]
                  have e8 : s7.at_ + n = e := by omega
                  unfold extsL
                  rw [e8]
                  have := exts_corr bs (e - s7.at_) e s7
                  rw [show s7.seen = false by rw [g6, hz]] at this
                  exact this
                · rw [decide_eq_false hn, if_neg (by simp), decide_eq_false (show ¬ s7.at_ + n = e by omega), must_no, extsR_over (by rfl)]
                  exact corr_bad s7
              · have h2 := cnt_no h7 hle
                rw [some_no h7 hle, h2, must_over (by rfl), extsR_over (by rfl)]
                exact corr_bad s7
theorem hello_corr (bs : List UInt8) : Corr (lookM bs) (helloR bs) := by
  have h1 := num_corr bs 1 e0 ls0
  unfold lookM helloR
  dsimp only
  rw [show rs0 = ls0.toR from rfl]
  cases hn : numL bs 1 e0 ls0 with
  | error c =>
    rw [hn] at h1
    have o := Corr.over h1
    show Corr (.error c) _
    rw [must_over o, cntR_over o, bodyR_over o]
    exact h1
  | ok y =>
    obtain ⟨n, s⟩ := y
    rw [hn] at h1
    obtain ⟨_, g2, g3, g4, g5, g6⟩ := numL_in hn (by omega)
    show Corr (if n ≠ 1 then _ else _) _
    rw [h1]
    dsimp only
    by_cases h : n = 1
    · rw [if_neg (by simp [h]), decide_eq_true h, must_ok]
      cases hm : numL bs 3 e0 s with
      | error c =>
        have c7 := cnt_err hm
        rw [some_err hm, bodyR_over (Corr.over c7)]
        exact c7
      | ok z =>
        obtain ⟨k, s2⟩ := z
        obtain ⟨_, f2, f3, f4, f5, f6⟩ := numL_in hm (by omega)
        by_cases hle : k ≤ e0 - s2.at_
        · rw [some_ok hm hle, if_pos (show anyQ k (e0 - s2.at_) = true from rfl), cnt_ok hm hle]
          exact body_corr bs (s2.at_ + k) s2 (by rw [f6, g6]; rfl)
        · have h2 := cnt_no hm hle
          rw [some_no hm hle, h2, bodyR_over (by rfl)]
          exact corr_bad s2
    · rw [if_pos h, decide_eq_false h, must_no, cntR_over (by rfl), bodyR_over (by rfl)]
      exact corr_bad s
theorem tellL_ok (s : LS) (b : Bool) : tellL (.ok s) b = if s.named = true then (1, s.name) else (2, ByteArray.empty) := rfl
theorem tellL_err (c : Int) (b : Bool) : tellL (.error c) b = if c ≠ eShort ∨ b = true then (3, ByteArray.empty) else (0, ByteArray.empty) := rfl
theorem tell_corr {x : Except Int LS} {t : RS} (h : Corr x t) (b : Bool) : tellR t b = tellL x b := by
  cases x with
  | ok s =>
    have h : t = s.toR := h
    subst h
    rw [tellL_ok]
    unfold tellR
    rw [if_neg (show ¬ s.toR.wr = true by simp [LS.toR])]
    by_cases hn : s.named = true
    · rw [if_pos (show s.toR.sh = false ∧ s.toR.nd = true from ⟨rfl, hn⟩), if_pos hn]; rfl
    · rw [if_neg (show ¬ (s.toR.sh = false ∧ s.toR.nd = true) from fun h => hn h.2), if_pos (show s.toR.sh = false from rfl), if_neg hn]
  | error c =>
    rw [tellL_err]
    unfold tellR
    rcases h with ⟨rfl, h1, h2⟩ | ⟨rfl, h1, h2⟩
    · rw [if_neg (show ¬ t.wr = true by simp [h2]), if_neg (show ¬ (t.sh = false ∧ t.nd = true) by simp [h1]), if_neg (show ¬ t.sh = false by simp [h1])]
      by_cases hb : b = true
      · rw [if_pos hb, if_pos (show eShort ≠ eShort ∨ b = true from .inr hb)]
      · rw [if_neg hb, if_neg (show ¬ (eShort ≠ eShort ∨ b = true) by rintro (h | h); exact h rfl; exact hb h)]
    · rw [if_pos h2, if_pos (show eForm ≠ eShort ∨ b = true from .inl (by decide))]
/-- what the document's Look tells -/
theorem look_ref (b : List UInt8) : tellR (helloR (partsL b).1) (partsL b).2 = lookP b := tell_corr (hello_corr _) _
end Go.Proofs.YtpoheemjdieogaaGreatDoor
