/-
  The plain law of HttpAuthority: what http.Look tells of an authority in an absolute line and in a host's line. No condition.
-/
import Derived.Test.YtjppfdilfcokeaaDoorHttpY
import Derived.Test.YtjppfdilfcokeaaDoorHttpE
namespace Go.Proofs.YtjppfdilfcokeaaDoor
open Go.Lib
set_option linter.unusedVariables false
set_option linter.unusedSimpArgs false

def cutC : List UInt8 → List UInt8 × List UInt8 × Bool
  | [] => ([], [], false)
  | c :: t => if c = 58 then ([], t, true) else (c :: (cutC t).1, (cutC t).2.1, (cutC t).2.2)
theorem cut_spec : ∀ s : List UInt8, (cutC s = (s, [], false) ∧ 58 ∉ s) ∨ ∃ h p, s = h ++ 58 :: p ∧ 58 ∉ h ∧ cutC s = (h, p, true)
  | [] => .inl ⟨rfl, by simp⟩
  | c :: t => by
    by_cases hc : c = 58
    · subst hc
      exact .inr ⟨[], t, rfl, by simp, by simp [cutC]⟩
    · rcases cut_spec t with ⟨h1, h2⟩ | ⟨h, p, h1, h2, h3⟩
      · exact .inl ⟨by simp [cutC, hc, h1], by simp [h2]; exact fun e => hc e.symm⟩
      · exact .inr ⟨c :: h, p, by rw [h1]; rfl, by simp [h2]; exact fun e => hc e.symm, by simp [cutC, hc, h3]⟩
def stepN (n : Nat) (c : UInt8) : Nat := 10 * n + (c.toNat - 48)
def portN (n : Nat) (z : List UInt8) : Nat := z.foldl stepN n
theorem portN_nil (n : Nat) : portN n [] = n := by unfold portN; rw [List.foldl_nil]
theorem portN_cons (n : Nat) (c : UInt8) (t : List UInt8) : portN n (c :: t) = portN (10 * n + (c.toNat - 48)) t := by unfold portN; rw [List.foldl_cons]; unfold stepN; exact Eq.refl _
theorem portN_ge (z : List UInt8) : ∀ n : Nat, n ≤ portN n z := by
  induction z with
  | nil => intro n; rw [portN_nil]; exact Nat.le_refl _
  | cons c t ih =>
    intro n
    have := ih (10 * n + (c.toNat - 48))
    rw [portN_cons]
    omega
def okP (p : List UInt8) : Bool := !p.isEmpty && p.all digB && decide (p.length ≤ 5) && decide (portN 0 p ≤ 65535)
def okA (s : List UInt8) : Bool := (foldA (cutC s).1).isSome && (!(cutC s).2.2 || okP (cutC s).2.1)
theorem port_run {d : UInt8} {r : List UInt8} (hd : digB d = false) : ∀ (z : List UInt8) (n m : Nat), n ≤ 65535 →
    ((z.all digB = true ∧ m + z.length ≤ 5 ∧ portN n z ≤ 65535) → portH n m (z ++ d :: r) = .ok ((), d :: r)) ∧
    (¬ (z.all digB = true ∧ m + z.length ≤ 5 ∧ portN n z ≤ 65535) → m ≤ 5 → portH n m (z ++ d :: r) = .error 3 ∨ ∃ e r', e ∈ z ∧ portH n m (z ++ d :: r) = .ok ((), e :: r'))
  | [], n, m, hn => by
    refine ⟨fun _ => by simp [portH, hd], fun h hm => absurd ⟨by simp, by simpa using hm, by rw [portN_nil]; exact hn⟩ h⟩
  | c :: z, n, m, hn => by
    by_cases hc : digB c = true
    · by_cases hb : 5 ≤ m ∨ 65535 < 10 * n + (c.toNat - 48)
      · have e : portH n m (c :: z ++ d :: r) = .error 3 := by simp only [List.cons_append, portH, hc, if_true, if_pos hb]
        refine ⟨fun h => ?_, fun _ _ => .inl e⟩
        obtain ⟨_, h2, h3⟩ := h
        have := portN_ge z (10 * n + (c.toNat - 48))
        rw [portN_cons] at h3
        simp only [List.length_cons] at h2
        omega
      · have e : portH n m (c :: z ++ d :: r) = portH (10 * n + (c.toNat - 48)) (m + 1) (z ++ d :: r) := by simp only [List.cons_append, portH, hc, if_true, if_neg hb]
        obtain ⟨i1, i2⟩ := port_run hd z (10 * n + (c.toNat - 48)) (m + 1) (by omega)
        rw [e]
        refine ⟨fun h => i1 ?_, fun h hm => ?_⟩
        · obtain ⟨h1, h2, h3⟩ := h
          simp only [List.all_cons, Bool.and_eq_true] at h1
          simp only [List.length_cons] at h2
          exact ⟨h1.2, by omega, h3⟩
        · rcases i2 (fun h' => h (by
            obtain ⟨h1, h2, h3⟩ := h'
            refine ⟨by simp [hc, h1], ?_, h3⟩
            simp only [List.length_cons]
            omega)) (by omega) with h4 | ⟨x, r', h4, h5⟩
          · exact .inl h4
          · exact .inr ⟨x, r', by simp [h4], h5⟩
    · refine ⟨fun h => ?_, fun _ _ => .inr ⟨c, z ++ d :: r, by simp, by simp [portH, hc]⟩⟩
      have := h.1
      simp [hc] at this
theorem name_run {d : UInt8} {r : List UInt8} (hd : hostB d = false) : ∀ (s pre : List UInt8), nameH pre (s ++ d :: r) = .error 3 ∨ ∃ x y, s = x ++ y ∧ nameH pre (s ++ d :: r) = .ok (pre ++ x, y ++ d :: r) ∧ (∀ b ∈ x, hostB b = true) ∧ ∀ c z, y = c :: z → hostB c = false
  | [], pre => by
    cases h : dotE pre with
    | true => exact .inl (by simp [nameH, hd, h])
    | false => exact .inr ⟨[], [], rfl, by simp [nameH, hd, h], by simp, by simp⟩
  | c :: s, pre => by
    by_cases hc : hostB c = true
    · by_cases hb : c = 46 ∧ (dotE pre = true ∨ pre.length = 252) ∨ 253 ≤ pre.length
      · exact .inl (by simp only [List.cons_append, nameH, hc, if_true, if_pos hb])
      · have e : nameH pre (c :: s ++ d :: r) = nameH (pre ++ [c]) (s ++ d :: r) := by simp only [List.cons_append, nameH, hc, if_true, if_neg hb]
        rw [e]
        rcases name_run hd s (pre ++ [c]) with h | ⟨x, y, h1, h2, h3, h4⟩
        · exact .inl h
        · refine .inr ⟨c :: x, y, by rw [h1]; rfl, by rw [h2]; simp, fun b hb => ?_, h4⟩
          rcases List.mem_cons.1 hb with h | h
          · rw [h]; exact hc
          · exact h3 b h
    · have hc' : hostB c = false := by simpa using hc
      cases h : dotE pre with
      | true => exact .inl (by simp [nameH, hc', h])
      | false => exact .inr ⟨[], c :: s, rfl, by simp [nameH, hc', h], by simp, fun c0 z0 e => by
          have := (List.cons.inj e).1
          rw [← this]; exact hc'⟩
theorem host58 {x : List UInt8} (h : ∀ b ∈ x, hostB b = true) : 58 ∉ x := fun hm => by
  have := h 58 hm
  revert this
  decide
theorem good58 {h l : List UInt8} (hf : foldA h = some l) : ∀ b ∈ h, hostB b = true := fun b hb => good_host ((foldA_some hf).2.2.2.1 b hb)
/-- what stands behind the name -/
theorem auth_at {a : List UInt8} {c : UInt8} {t l : List UInt8} (hn : nameH [] l = .ok (a, c :: t)) (hc : c ≠ 58) : authH l = .ok (foldN a, c :: t) := by
  unfold authH
  rw [hn]
  simp [bindH_ok, peekH, hc]
theorem auth_col {a t l : List UInt8} (hn : nameH [] l = .ok (a, 58 :: t)) : authH l = bindH (nextH digB t) fun d r => bindH (portH (d.toNat - 48) 1 r) fun _ r => .ok (foldN a, r) := by
  unfold authH
  rw [hn]
  simp [bindH_ok, peekH, nextH]
theorem auth_line {s r : List UInt8} {d : UInt8} (hd : hostB d = false) (hd58 : d ≠ 58) (hdd : digB d = false) :
    (okA s = true → authH (s ++ d :: r) = .ok (foldN (cutC s).1, d :: r)) ∧ (okA s = false → authH (s ++ d :: r) = .error 3 ∨ ∃ nm e r', e ∈ s ∧ authH (s ++ d :: r) = .ok (nm, e :: r')) := by
  cases hf : foldA (cutC s).1 with
  | some low =>
    obtain ⟨f1, f2, f3, f4, f5⟩ := foldA_some hf
    rcases cut_spec s with ⟨c1, c2⟩ | ⟨h, p, c1, c2, c3⟩
    · rw [c1] at hf f1 f2 f3 f4 f5
      have hn : nameH [] (s ++ d :: r) = .ok (s, d :: r) := name_all hd f4 f3 f2 s [] rfl (fun t => rfl)
      refine ⟨fun _ => by rw [c1]; exact auth_at hn hd58, fun ho => ?_⟩
      unfold okA at ho
      rw [c1, hf] at ho
      simp at ho
    · rw [c3] at hf f1 f2 f3 f4 f5
      have e : s ++ d :: r = h ++ 58 :: (p ++ d :: r) := by rw [c1]; simp
      have hn : nameH [] (s ++ d :: r) = .ok (h, 58 :: (p ++ d :: r)) := by rw [e]; exact name_all (by decide) f4 f3 f2 h [] rfl (fun t => rfl)
      rw [auth_col hn]
      have ho : okA s = okP p := by unfold okA; rw [c3, hf]; simp
      rw [ho, c3]
      cases p with
      | nil =>
        refine ⟨fun h => by simp [okP] at h, fun _ => .inl ?_⟩
        simp [nextH, hdd, bindH]
      | cons q z =>
        cases hq : digB q with
        | false =>
          refine ⟨fun h => by simp [okP, hq] at h, fun _ => .inl ?_⟩
          simp [nextH, hq, bindH]
        | true =>
          have hq9 : q.toNat - 48 ≤ 65535 := by have := dig_val hq; omega
          obtain ⟨i1, i2⟩ := port_run (r := r) hdd z (q.toNat - 48) 1 hq9
          have hcond : okP (q :: z) = true ↔ (z.all digB = true ∧ 1 + z.length ≤ 5 ∧ portN (q.toNat - 48) z ≤ 65535) := by
            have e0 : portN 0 (q :: z) = portN (q.toNat - 48) z := by rw [portN_cons, Nat.mul_zero, Nat.zero_add]
            unfold okP
            rw [e0]
            simp only [List.isEmpty_cons, Bool.not_false, Bool.true_and, List.all_cons, hq, Bool.and_eq_true, decide_eq_true_eq, List.length_cons]
            constructor
            · rintro ⟨⟨h1, h2⟩, h3⟩
              exact ⟨h1, by omega, h3⟩
            · rintro ⟨h1, h2, h3⟩
              exact ⟨⟨h1, by omega⟩, h3⟩
          have en : bindH (nextH digB (q :: z ++ d :: r)) (fun d r => bindH (portH (d.toNat - 48) 1 r) fun _ r => .ok (foldN h, r)) = bindH (portH (q.toNat - 48) 1 (z ++ d :: r)) fun _ r => .ok (foldN h, r) := by
            simp [nextH, hq, bindH_ok]
          rw [en]
          refine ⟨fun h1 => by rw [i1 (hcond.1 h1)]; rfl, fun h1 => ?_⟩
          rcases i2 (fun h2 => by rw [hcond.2 h2] at h1; cases h1) (by omega) with h3 | ⟨x, r', h3, h4⟩
          · exact .inl (by rw [h3]; rfl)
          · exact .inr ⟨foldN h, x, r', by rw [c1]; simp [h3], by rw [h4]; rfl⟩
  | none =>
    have ho : okA s = false := by unfold okA; rw [hf]; rfl
    rw [ho]
    refine ⟨fun h => (by cases h), fun _ => ?_⟩
    rcases name_run hd s [] with h | ⟨x, y, h1, h2, h3, h4⟩
    · refine .inl ?_
      unfold authH
      rw [h]; rfl
    · rw [List.nil_append] at h2
      have hx := (nameH_fold h2).1
      have hx58 := host58 h3
      cases y with
      | nil =>
        rw [List.append_nil] at h1
        exfalso
        have : cutC s = (s, [], false) := by
          rcases cut_spec s with ⟨c1, _⟩ | ⟨h, p, c1, _, _⟩
          · exact c1
          · exact absurd (show (58 : UInt8) ∈ x by rw [← h1, c1]; simp) hx58
        rw [this, h1, hx] at hf
        cases hf
      | cons c z =>
        by_cases hc : c = 58
        · exfalso
          subst hc
          have : (cutC s).1 = x := by
            rcases cut_spec s with ⟨c1, c2⟩ | ⟨h, p, c1, c2, c3⟩
            · exact absurd (show (58 : UInt8) ∈ s by rw [h1]; simp) c2
            · rw [c3]
              have e : h ++ 58 :: p = x ++ 58 :: z := by rw [← c1, ← h1]
              have := List.append_eq_append_iff.1 e
              rcases this with ⟨a, ha, hb⟩ | ⟨a, ha, hb⟩
              · cases a with
                | nil => rw [ha]; simp
                | cons w a =>
                  have := (List.cons.inj hb).1
                  subst this
                  exact absurd (show (58 : UInt8) ∈ x by rw [ha]; simp) hx58
              · cases a with
                | nil => rw [ha]; simp
                | cons w a =>
                  have := (List.cons.inj hb).1
                  subst this
                  exact absurd (show (58 : UInt8) ∈ h by rw [ha]; simp) c2
          rw [this, hx] at hf
          cases hf
        · refine .inr ⟨foldN x, c, z ++ d :: r, by rw [h1]; simp, ?_⟩
          exact auth_at (by rw [h2]; rfl) hc
/-- no blank, no line's end, no '/' and no '?' -/
def cleanB (c : UInt8) : Bool := !([32, 9, 13, 10, 47, 63] : List UInt8).contains c
theorem clean_ne {s : List UInt8} (hs : s.all cleanB = true) {e : UInt8} (he : e ∈ s) : e ≠ 32 ∧ e ≠ 9 ∧ e ≠ 13 ∧ e ≠ 10 ∧ e ≠ 47 ∧ e ≠ 63 := by
  have := List.all_eq_true.1 hs e he
  simp [cleanB] at this
  exact this
def uriH : List UInt8 := [71, 69, 84, 32, 104, 116, 116, 112, 58, 47, 47]
theorem first_uri (t : List UInt8) : firstH (uriH ++ t) = bindH (bindH (authH t) fun nm r => bindH (peekH r) fun c r => if c = 47 ∨ c = 63 then bindH (runH seenB r) fun _ r => .ok (some nm, r) else .ok (some nm, r)) tailF := by
  rfl
theorem head_first {l : List UInt8} {nm r : List UInt8} (h : firstH l = .ok (some nm, r)) : lookH l = (1, nm) := by
  unfold lookH headH
  rw [h]
  rfl
theorem head_bad {l : List UInt8} (h : firstH l = .error 3) : lookH l = (3, []) := by
  unfold lookH headH
  rw [h]
  rfl
/-- an absolute line -/
theorem look_uri {s : List UInt8} (hs : s.all cleanB = true) : lookH (uriB s) = if okA s then (1, foldN (cutC s).1) else (3, []) := by
  have e : uriB s = uriH ++ (s ++ 32 :: [72, 84, 84, 80, 47, 49, 46, 49, 13, 10]) := by simp [uriB, uriH]
  obtain ⟨h1, h2⟩ := auth_line (s := s) (r := [72, 84, 84, 80, 47, 49, 46, 49, 13, 10]) (d := 32) (by decide) (by decide) (by decide)
  cases ho : okA s with
  | true =>
    rw [if_pos rfl]
    apply head_first (r := [])
    rw [e, first_uri, h1 ho]
    rfl
  | false =>
    rw [if_neg (by simp)]
    apply head_bad
    rw [e, first_uri]
    rcases h2 ho with h3 | ⟨nm, x, r', hx, h3⟩
    · rw [h3]; rfl
    · obtain ⟨n1, n2, n3, n4, n5, n6⟩ := clean_ne hs hx
      rw [h3]
      have hx2 : (x == 32) = false := by simpa using n1
      simp [bindH_ok, peekH, n5, n6, tailF, textH, nextH, hx2, bindH]
/-- an absolute line with a path -/
def pathB (s : List UInt8) : List UInt8 := uriH ++ s ++ [47, 97, 63, 98, 32, 72, 84, 84, 80, 47, 49, 46, 48, 13, 10]
theorem look_path {s : List UInt8} (ho : okA s = true) : lookH (pathB s) = (1, foldN (cutC s).1) := by
  have e : pathB s = uriH ++ (s ++ 47 :: [97, 63, 98, 32, 72, 84, 84, 80, 47, 49, 46, 48, 13, 10]) := by simp [pathB, uriH]
  obtain ⟨h1, _⟩ := auth_line (s := s) (r := [97, 63, 98, 32, 72, 84, 84, 80, 47, 49, 46, 48, 13, 10]) (d := 47) (by decide) (by decide) (by decide)
  apply head_first (r := [])
  rw [e, first_uri, h1 ho]
  rfl
/-- a host's line -/
def hostLn (left s right : List UInt8) : List UInt8 := [71, 69, 84, 32, 47, 32, 72, 84, 84, 80, 47, 49, 46, 49, 13, 10, 88, 45, 89, 58, 32, 122, 13, 10, 72, 79, 83, 84, 58] ++ left ++ s ++ right ++ [13, 10]
theorem head_none {l : List UInt8} {r : List UInt8} {y : Int × List UInt8} (h : firstH l = .ok (none, r)) (h2 : fieldsH 100000 r = .ok (y, [])) : lookH l = y := by
  unfold lookH headH
  rw [h, bindH_ok]
  simp only
  rw [h2]
theorem head_none_bad {l : List UInt8} {r : List UInt8} (h : firstH l = .ok (none, r)) (h2 : fieldsH 100000 r = .error 3) : lookH l = (3, []) := by
  unfold lookH headH
  rw [h, bindH_ok]
  simp only
  rw [h2]
theorem fields_HOST (k : Nat) (t : List UInt8) : fieldsH (k + 1) ([72, 79, 83, 84, 58] ++ t) = bindH (runH blankB t) fun _ r => bindH (authH r) fun nm r => bindH (runH blankB r) fun _ r => bindH (textH [13, 10] r) fun _ r => .ok ((1, nm), r) := by
  rw [fields_eq]
  rfl
theorem blanks_run {x : List UInt8} (hx : ∀ b ∈ x, blankB b = true) {c : UInt8} (hc : blankB c = false) (t : List UInt8) : runH blankB (x ++ c :: t) = .ok (x, c :: t) := run_some hc x hx
theorem look_line {left s right : List UInt8} (hl : ∀ b ∈ left, blankB b = true) (hr : ∀ b ∈ right, b = 9) (hs : s.all cleanB = true) : lookH (hostLn left s right) = if okA s then (1, foldN (cutC s).1) else (3, []) := by
  have e : hostLn left s right = reqHead ++ (lineB ([88, 45, 89], [122]) ++ ([72, 79, 83, 84, 58] ++ (left ++ (s ++ (right ++ [13, 10]))))) := by simp [hostLn, reqHead, lineB]
  have hf : firstH (hostLn left s right) = .ok (none, lineB ([88, 45, 89], [122]) ++ ([72, 79, 83, 84, 58] ++ (left ++ (s ++ (right ++ [13, 10]))))) := by rw [e, first_req]
  have hrb : ∀ b ∈ right, blankB b = true := fun b hb => by rw [hr b hb]; decide
  obtain ⟨d, r, hdr, hd⟩ : ∃ d r, right ++ [13, 10] = d :: r ∧ (d = 9 ∨ d = 13) := by
    cases right with
    | nil => exact ⟨13, [10], rfl, .inr rfl⟩
    | cons b right => exact ⟨b, right ++ [13, 10], rfl, .inl (hr b (by simp))⟩
  have hfl : fieldsH 100000 (lineB ([88, 45, 89], [122]) ++ ([72, 79, 83, 84, 58] ++ (left ++ (s ++ (right ++ [13, 10]))))) = bindH (runH blankB (left ++ (s ++ (right ++ [13, 10])))) fun _ r => bindH (authH r) fun nm r => bindH (runH blankB r) fun _ r => bindH (textH [13, 10] r) fun _ r => .ok ((1, nm), r) := by
    rw [fields_line (by decide) 99999, show (99999 : Nat) = 99998 + 1 from rfl, fields_HOST]
  cases hse : s with
  | nil =>
    subst hse
    have hz : okA [] = false := by kernel_rfl
    rw [hz, if_neg (by simp)]
    apply head_none_bad hf
    rw [hfl, List.nil_append]
    have hb : ∀ b ∈ left ++ right, blankB b = true := fun b hb => by
      rcases List.mem_append.1 hb with h | h
      · exact hl b h
      · exact hrb b h
    rw [← List.append_assoc, show left ++ right ++ [13, 10] = (left ++ right) ++ 13 :: [10] from rfl, blanks_run hb (by decide)]
    rfl
  | cons c0 s0 =>
    rw [← hse]
    have hc0 : blankB c0 = false := by
      obtain ⟨n1, n2, _⟩ := clean_ne hs (show c0 ∈ s by rw [hse]; simp)
      unfold blankB
      have a1 : c0.toNat ≠ 32 := fun h => n1 (UInt8.toNat_inj.1 (by simpa using h))
      have a2 : c0.toNat ≠ 9 := fun h => n2 (UInt8.toNat_inj.1 (by simpa using h))
      simp [a1, a2]
    have hrun : runH blankB (left ++ (s ++ (right ++ [13, 10]))) = .ok (left, s ++ (right ++ [13, 10])) := by
      rw [hse, List.cons_append]
      exact blanks_run hl hc0 _
    rw [hrun, bindH_ok] at hfl
    have hdn : hostB d = false ∧ d ≠ 58 ∧ digB d = false := by rcases hd with rfl | rfl <;> decide
    obtain ⟨h1, h2⟩ := auth_line (s := s) (r := r) hdn.1 hdn.2.1 hdn.2.2
    rw [← hdr] at h1 h2
    cases ho : okA s with
    | true =>
      rw [if_pos rfl]
      apply head_none hf
      have hrr : runH blankB (right ++ [13, 10]) = Except.ok (right, [13, 10]) := blanks_run hrb (c := 13) (by decide) [10]
      rw [hfl, h1 ho, bindH_ok, hrr, bindH_ok]
      rfl
    | false =>
      rw [if_neg (by simp)]
      apply head_none_bad hf
      rw [hfl]
      rcases h2 ho with h3 | ⟨nm, x, r', hx, h3⟩
      · rw [h3]; rfl
      · obtain ⟨n1, n2, n3, n4, n5, n6⟩ := clean_ne hs hx
        have a1 : x.toNat ≠ 32 := fun h => n1 (UInt8.toNat_inj.1 (by simpa using h))
        have a2 : x.toNat ≠ 9 := fun h => n2 (UInt8.toNat_inj.1 (by simpa using h))
        have hbx : blankB x = false := by unfold blankB; simp [a1, a2]
        have hx13 : (x == 13) = false := by simpa using n3
        rw [h3]
        simp [bindH_ok, runH, hbx, textH, nextH, hx13, bindH]
end Go.Proofs.YtjppfdilfcokeaaDoor
