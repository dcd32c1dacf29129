/-
  The plain law of a request's bytes: what http.Look tells of any beginning of them. No condition.
-/
import Derived.Test.YtpoheemjdieogaaGreatDoorHttpQ
import Derived.Test.YtpoheemjdieogaaGreatDoorHttpC
namespace Go.Proofs.YtpoheemjdieogaaGreatDoor
open Go.Lib
set_option linter.unusedVariables false
set_option linter.unusedSimpArgs false

set_option maxRecDepth 100000 in
theorem first_req (r : List UInt8) : firstH (reqHead ++ r) = .ok (none, r) := by
  rfl
theorem takeDrop (p : UInt8 → Bool) (b : List UInt8) : ∃ x y, b = x ++ y ∧ (∀ c ∈ x, p c = true) ∧ (y = [] ∨ ∃ d z, y = d :: z ∧ p d = false) := by
  induction b with
  | nil => exact ⟨[], [], rfl, by simp, .inl rfl⟩
  | cons c b ih =>
    by_cases hc : p c = true
    · obtain ⟨x, y, h1, h2, h3⟩ := ih
      refine ⟨c :: x, y, by rw [h1]; rfl, fun d hd => ?_, h3⟩
      rcases List.mem_cons.1 hd with h | h
      · rw [h]; exact hc
      · exact h2 d h
    · exact ⟨[], c :: b, rfl, by simp, .inr ⟨c, b, rfl, by simpa using hc⟩⟩
theorem fields_line {f : FL} (h : fieldOk f = true) (k : Nat) (r : List UInt8) : fieldsH (k + 1) (lineB f ++ r) = fieldsH k r := by
  obtain ⟨a, b⟩ := f
  unfold fieldOk at h
  simp only [Bool.and_eq_true, Bool.not_eq_true'] at h
  obtain ⟨⟨⟨h1, h2⟩, h3⟩, h4⟩ := h
  cases a with
  | nil => simp at h1
  | cons c a =>
    simp only [List.all_cons, Bool.and_eq_true] at h2
    obtain ⟨hc, ha⟩ := h2
    have hc13 : ¬ c = 13 := by rintro rfl; revert hc; decide
    have e : lineB (c :: a, b) ++ r = c :: (a ++ 58 :: 32 :: (b ++ 13 :: 10 :: r)) := by simp [lineB]
    rw [e, fields_eq]
    simp only [peekH, bindH_ok, if_neg hc13, nextH, hc, if_true]
    rw [run_some (by decide) a (fun x hx => List.all_eq_true.1 ha x hx)]
    simp only [bindH_ok]
    rw [show (58 : UInt8) :: 32 :: (b ++ 13 :: 10 :: r) = [58] ++ 32 :: (b ++ 13 :: 10 :: r) from rfl, text_at]
    simp only [bindH_ok]
    obtain ⟨x, y, hb, hx, hy⟩ := takeDrop blankB b
    have hxs : ∀ z ∈ (32 :: x), blankB z = true := fun z hz => by
      rcases List.mem_cons.1 hz with h | h
      · rw [h]; decide
      · exact hx z h
    have hrun : runH blankB (32 :: (b ++ 13 :: 10 :: r)) = .ok (32 :: x, y ++ 13 :: 10 :: r) := by
      rcases hy with rfl | ⟨d, z, rfl, hd⟩
      · have := run_some (c := 13) (l := 10 :: r) (p := blankB) (by decide) (32 :: x) hxs
        rw [hb]; simpa using this
      · have := run_some (c := d) (l := z ++ 13 :: 10 :: r) (p := blankB) hd (32 :: x) hxs
        rw [hb]; simpa using this
    rw [hrun]
    simp only [bindH_ok, fieldK, h4, Bool.false_eq_true, if_false]
    rw [run_some (by decide) y (fun z hz => List.all_eq_true.1 h3 z (by rw [hb]; exact List.mem_append.2 (.inr hz)))]
    simp only [bindH_ok]
    rw [show (13 : UInt8) :: 10 :: r = [13, 10] ++ r from rfl, text_at]
    simp only [bindH_ok]
set_option maxRecDepth 100000 in
theorem good_host0 : ∀ i : Fin 256, goodU (UInt8.ofNat i.val) = true → hostB (UInt8.ofNat i.val) = true := by decide
theorem good_host {c : UInt8} (h : goodU c = true) : hostB c = true := by
  have := good_host0 ⟨c.toNat, c.toNat_lt⟩
  simp only [UInt8.ofNat_toNat] at this
  exact this h
theorem name_all {host l : List UInt8} {d : UInt8} (hd : hostB d = false) (hg : ∀ b ∈ host, goodU b = true) (he : emptyP true host = false) (hl : host.length ≤ 253) : ∀ (post pre : List UInt8), pre ++ post = host → (∀ t, emptyP true (pre ++ t) = emptyP (dotE pre) t) → nameH pre (post ++ d :: l) = .ok (host, d :: l)
  | [], pre, hp, hi => by
    have hp' : pre = host := by simpa using hp
    subst hp'
    have h0 : dotE pre = false := by
      have := hi []
      rw [List.append_nil, he] at this
      simpa [emptyP] using this.symm
    simp [nameH, hd, h0]
  | c :: post, pre, hp, hi => by
    have hc : hostB c = true := good_host (hg c (by rw [← hp]; simp))
    have hlen : pre.length + (post.length + 1) = host.length := by rw [← hp]; simp
    have hdot : c = 46 → dotE pre = false ∧ emptyP true post = false := by
      rintro rfl
      have h1 := hi (46 :: post)
      rw [hp, he] at h1
      simp only [emptyP, if_true] at h1
      have := h1.symm
      rwa [Bool.or_eq_false_iff] at this
    have hbad : ¬ (c = 46 ∧ (dotE pre = true ∨ pre.length = 252) ∨ 253 ≤ pre.length) := by
      rintro (⟨h1, h2 | h2⟩ | h2)
      · rw [(hdot h1).1] at h2; cases h2
      · have hpn : post = [] := List.eq_nil_of_length_eq_zero (by omega)
        have := (hdot h1).2
        rw [hpn] at this
        cases this
      · omega
    rw [List.cons_append]
    simp only [nameH, hc, if_true, if_neg hbad]
    refine name_all hd hg he hl post (pre ++ [c]) (by rw [← hp]; simp) (fun t => ?_)
    rw [List.append_assoc, List.singleton_append, hi, dotE_snoc]
    by_cases h46 : c = 46
    · rw [(hdot h46).1]
      simp [emptyP, h46]
    · simp [emptyP, h46]
theorem auth_host {host l r : List UInt8} (hf : foldA host = some l) : authH (host ++ 13 :: r) = .ok (foldN host, 13 :: r) := by
  obtain ⟨h1, h2, h3, h4, h5⟩ := foldA_some hf
  unfold authH
  rw [name_all (by decide) h4 h3 h2 host [] rfl (fun t => rfl)]
  simp [bindH_ok, peekH]
theorem fields_host {host l r : List UInt8} (hf : foldA host = some l) (k : Nat) : fieldsH (k + 1) ([72, 111, 115, 116, 58, 32] ++ host ++ [13, 10] ++ r) = .ok ((1, foldN host), r) := by
  obtain ⟨h1, h2, h3, h4, h5⟩ := foldA_some hf
  have e : [72, 111, 115, 116, 58, 32] ++ host ++ [13, 10] ++ r = (72 : UInt8) :: ([111, 115, 116] ++ 58 :: 32 :: (host ++ 13 :: 10 :: r)) := by simp
  rw [e, fields_eq]
  have e1 : wordB 72 = true := by decide
  have e2 : ¬ (72 : UInt8) = 13 := by decide
  simp only [peekH, bindH_ok, if_neg e2, nextH, e1, if_true]
  rw [run_some (by decide) [111, 115, 116] (by decide)]
  simp only [bindH_ok]
  rw [show (58 : UInt8) :: 32 :: (host ++ 13 :: 10 :: r) = [58] ++ 32 :: (host ++ 13 :: 10 :: r) from rfl, text_at]
  simp only [bindH_ok]
  have hrun : runH blankB (32 :: (host ++ 13 :: 10 :: r)) = .ok ([32], host ++ 13 :: 10 :: r) := by
    cases host with
    | nil => exact absurd rfl h1
    | cons h0 host =>
      have hb : blankB h0 = false := by
        have hg := good_host (h4 h0 (by simp))
        cases hbl : blankB h0 with
        | false => rfl
        | true =>
          exfalso
          unfold blankB at hbl
          unfold hostB capB smallB digB at hg
          simp at hbl hg
          omega
      have := run_some (c := h0) (l := host ++ 13 :: 10 :: r) (p := blankB) hb [32] (by decide)
      simpa using this
  rw [hrun]
  have e3 : equalFold [72, 111, 115, 116] hostL = true := by decide
  simp only [bindH_ok, fieldK, e3, if_true]
  rw [auth_host hf]
  simp only [bindH_ok]
  rw [show runH blankB (13 :: 10 :: r) = .ok ([], 13 :: 10 :: r) by simp [runH, show blankB 13 = false by decide]]
  simp only [bindH_ok]
  rw [show (13 : UInt8) :: 10 :: r = [13, 10] ++ r from rfl, text_at]
  simp only [bindH_ok]
theorem fields_end (k : Nat) (r : List UInt8) : fieldsH (k + 1) ([13, 10] ++ r) = .ok ((2, []), r) := by
  rw [fields_eq]
  rw [show [13, 10] ++ r = (13 : UInt8) :: (10 :: r) from rfl]
  simp only [peekH, bindH_ok, if_true]
  rw [show (13 : UInt8) :: 10 :: r = [13, 10] ++ r from rfl, text_at]
  simp only [bindH_ok]
theorem fields_all : ∀ (fs : List FL) (k : Nat) (r : List UInt8), fs.all fieldOk = true → fieldsH (fs.length + k) ((fs.map lineB).flatten ++ r) = fieldsH k r
  | [], k, r, _ => by simp
  | f :: fs, k, r, h => by
    simp only [List.all_cons, Bool.and_eq_true] at h
    have e : (f :: fs).length + k = (fs.length + k) + 1 := by simp; omega
    rw [e, List.map_cons, List.flatten_cons, List.append_assoc, fields_line h.1, fields_all fs k r h.2]
/-- what http.Look tells of a request: where it ends -/
theorem request_head {host : List UInt8} {fs : List FL} (h : reqOk host fs = true) (hn : fs.length ≤ 100) (x : List UInt8) :
    (host = [] → headH (reqB [] fs ++ x) = .ok ((2, []), x)) ∧ (host ≠ [] → headH (reqB host fs ++ x) = .ok ((1, foldN host), [13, 10] ++ x)) := by
  unfold reqOk at h
  rw [Bool.and_eq_true] at h
  obtain ⟨ho, hf⟩ := h
  obtain ⟨m, hm⟩ : ∃ m, 100000 = fs.length + (m + 1) := ⟨99999 - fs.length, by omega⟩
  constructor
  · intro h0
    have e : reqB [] fs ++ x = reqHead ++ ((fs.map lineB).flatten ++ ([13, 10] ++ x)) := by simp [reqB, hostLine]
    unfold headH
    rw [e, first_req, bindH_ok]
    simp only
    rw [hm, fields_all fs _ _ hf, fields_end]
  · intro h0
    have hs : (foldA host).isSome = true := by
      rw [Bool.or_eq_true] at ho
      rcases ho with h | h
      · simp at h; exact absurd h h0
      · exact h
    obtain ⟨l, hl⟩ := Option.isSome_iff_exists.1 hs
    have e : reqB host fs ++ x = reqHead ++ ((fs.map lineB).flatten ++ ([72, 111, 115, 116, 58, 32] ++ host ++ [13, 10] ++ ([13, 10] ++ x))) := by simp [reqB, hostLine, h0]
    unfold headH
    rw [e, first_req, bindH_ok]
    simp only
    rw [hm, fields_all fs _ _ hf, fields_host hl]
/-- what is told of a beginning -/
theorem head_prefix {b rest : List UInt8} {y : Int × List UInt8} (h : headH b = .ok (y, rest)) (k : Nat) :
    (k + rest.length < b.length → lookH (b.take k) = (0, [])) ∧ (b.length ≤ k + rest.length → lookH (b.take k) = y) := by
  constructor
  · intro hk
    have hz : (lookH (b.take k)).1 = 0 := by
      apply Classical.byContradiction
      intro hne
      unfold lookH at hne
      cases hh : headH (b.take k) with
      | error c =>
        rw [hh] at hne
        have := (stable_head (b.take k) (b.drop k)).2.1 c hh hne
        rw [List.take_append_drop, h] at this
        cases this
      | ok z =>
        obtain ⟨y', r'⟩ := z
        have := (stable_head (b.take k) (b.drop k)).1 y' r' hh
        rw [List.take_append_drop, h] at this
        simp only [Except.ok.injEq, Prod.mk.injEq] at this
        have hl := congrArg List.length this.2
        simp at hl
        omega
    rcases lookH_shape (b.take k) with e | e | e | ⟨nm, e, _⟩
    · exact e
    · rw [e] at hz; cases hz
    · rw [e] at hz; cases hz
    · rw [e] at hz; cases hz
  · intro hk
    obtain ⟨pre, h1, h2⟩ := ends_head b y rest h
    have hl : b.length = (pre ++ [13, 10]).length + rest.length := by rw [h1]; simp; omega
    have ht : b.take k = pre ++ [13, 10] ++ rest.take (k - (pre ++ [13, 10]).length) := by
      rw [h1, List.take_append]
      congr 1
      exact List.take_of_length_le (by omega)
    unfold lookH
    rw [ht, h2]
theorem foldN_upper {host l : List UInt8} (hf : foldA host = some l) : foldA (toUpperD host) = some l ∧ foldN (toUpperD host) = foldN host := by
  have h := foldA_upper hf
  refine ⟨h, ?_⟩
  unfold foldN
  rw [h, hf]
end Go.Proofs.YtpoheemjdieogaaGreatDoor
