/-
  The plain law of a request's bytes: what http.Look tells of any beginning of them. No condition. What a hello's records tell: its name, or that it has none. Plain lists. No condition. The walk of culvertlaw23.awake: it is true. Condition: the library's variables lie as listed. The arguments of the sniff laws as they come in, opened. No condition.
-/
import Derived.Test.YtpoheemjdieogaaGreatDoorHttpQ
import Derived.Test.YtpoheemjdieogaaGreatDoorHttpC
import Derived.Test.YtpoheemjdieogaaGreatDoorTlsI
import Derived.Test.YtpoheemjdieogaaGreatDoorSnW
import Derived.Test.YtpoheemjdieogaaGreatDoorHttpV
namespace Go.Proofs.YtpoheemjdieogaaGreatDoor
open Go.Lib
set_option linter.unusedVariables false
set_option linter.unusedSimpArgs false

set_option maxRecDepth 100000 in
theorem first_req (r : List UInt8) : firstH (reqHead ++ r) = .ok (none, r) := by
  rfl
theorem takeDrop (p : UInt8 → Bool) (b : List UInt8) : ∃ x y, b = x ++ y ∧ (∀ c ∈ x, p c = true) ∧ (y = [] ∨ ∃ d z, y = d :: z ∧ p d = false) := by
  induction b with
  | nil => exact ⟨[], [], rfl, by simp, .inl rfl⟩
  | cons c b ih =>
    by_cases hc : p c = true
    · obtain ⟨x, y, h1, h2, h3⟩ := ih
      refine ⟨c :: x, y, by rw [h1]; rfl, fun d hd => ?_, h3⟩
      rcases List.mem_cons.1 hd with h | h
      · rw [h]; exact hc
      · exact h2 d h
    · exact ⟨[], c :: b, rfl, by simp, .inr ⟨c, b, rfl, by simpa using hc⟩⟩
theorem fields_line {f : FL} (h : fieldOk f = true) (k : Nat) (r : List UInt8) : fieldsH (k + 1) (lineB f ++ r) = fieldsH k r := by
  obtain ⟨a, b⟩ := f
  unfold fieldOk at h
  simp only [Bool.and_eq_true, Bool.not_eq_true'] at h
  obtain ⟨⟨⟨h1, h2⟩, h3⟩, h4⟩ := h
  cases a with
  | nil => simp at h1
  | cons c a =>
    simp only [List.all_cons, Bool.and_eq_true] at h2
    obtain ⟨hc, ha⟩ := h2
    have hc13 : ¬ c = 13 := by rintro rfl; revert hc; decide
    have e : lineB (c :: a, b) ++ r = c :: (a ++ 58 :: 32 :: (b ++ 13 :: 10 :: r)) := by simp [lineB]
    rw [e, fields_eq]
    simp only [peekH, bindH_ok, if_neg hc13, nextH, hc, if_true]
    rw [run_some (by decide) a (fun x hx => List.all_eq_true.1 ha x hx)]
    simp only [bindH_ok]
    rw [show (58 : UInt8) :: 32 :: (b ++ 13 :: 10 :: r) = [58] ++ 32 :: (b ++ 13 :: 10 :: r) from rfl, text_at]
    simp only [bindH_ok]
    obtain ⟨x, y, hb, hx, hy⟩ := takeDrop blankB b
    have hxs : ∀ z ∈ (32 :: x), blankB z = true := fun z hz => by
      rcases List.mem_cons.1 hz with h | h
      · rw [h]; decide
      · exact hx z h
    have hrun : runH blankB (32 :: (b ++ 13 :: 10 :: r)) = .ok (32 :: x, y ++ 13 :: 10 :: r) := by
      rcases hy with rfl | ⟨d, z, rfl, hd⟩
      · have := run_some (c := 13) (l := 10 :: r) (p := blankB) (by decide) (32 :: x) hxs
        rw [hb]; simpa using this
      · have := run_some (c := d) (l := z ++ 13 :: 10 :: r) (p := blankB) hd (32 :: x) hxs
        rw [hb]; simpa using this
    rw [hrun]
    simp only [bindH_ok, fieldK, h4, Bool.false_eq_true, if_false]
    rw [run_some (by decide) y (fun z hz => List.all_eq_true.1 h3 z (by rw [hb]; exact List.mem_append.2 (.inr hz)))]
    simp only [bindH_ok]
    rw [show (13 : UInt8) :: 10 :: r = [13, 10] ++ r from rfl, text_at]
    simp only [bindH_ok]
set_option maxRecDepth 100000 in
theorem good_host0 : ∀ i : Fin 256, goodU (UInt8.ofNat i.val) = true → hostB (UInt8.ofNat i.val) = true := by decide
theorem good_host {c : UInt8} (h : goodU c = true) : hostB c = true := by
  have := good_host0 ⟨c.toNat, c.toNat_lt⟩
  simp only [UInt8.ofNat_toNat] at this
  exact this h
theorem name_all {host l : List UInt8} {d : UInt8} (hd : hostB d = false) (hg : ∀ b ∈ host, goodU b = true) (he : emptyP true host = false) (hl : host.length ≤ 253) : ∀ (post pre : List UInt8), pre ++ post = host → (∀ t, emptyP true (pre ++ t) = emptyP (dotE pre) t) → nameH pre (post ++ d :: l) = .ok (host, d :: l)
  | [], pre, hp, hi => by
    have hp' : pre = host := by simpa using hp
    subst hp'
    have h0 : dotE pre = false := by
      have := hi []
      rw [List.append_nil, he] at this
      simpa [emptyP] using this.symm
    simp [nameH, hd, h0]
  | c :: post, pre, hp, hi => by
    have hc : hostB c = true := good_host (hg c (by rw [← hp]; simp))
    have hlen : pre.length + (post.length + 1) = host.length := by rw [← hp]; simp
    have hdot : c = 46 → dotE pre = false ∧ emptyP true post = false := by
      rintro rfl
      have h1 := hi (46 :: post)
      rw [hp, he] at h1
      simp only [emptyP, if_true] at h1
      have := h1.symm
      rwa [Bool.or_eq_false_iff] at this
    have hbad : ¬ (c = 46 ∧ (dotE pre = true ∨ pre.length = 252) ∨ 253 ≤ pre.length) := by
      rintro (⟨h1, h2 | h2⟩ | h2)
      · rw [(hdot h1).1] at h2; cases h2
      · have hpn : post = [] := List.eq_nil_of_length_eq_zero (by omega)
        have := (hdot h1).2
        rw [hpn] at this
        cases this
      · omega
    rw [List.cons_append]
    simp only [nameH, hc, if_true, if_neg hbad]
    refine name_all hd hg he hl post (pre ++ [c]) (by rw [← hp]; simp) (fun t => ?_)
    rw [List.append_assoc, List.singleton_append, hi, dotE_snoc]
    by_cases h46 : c = 46
    · rw [(hdot h46).1]
      simp [emptyP, h46]
    · simp [emptyP, h46]
theorem auth_host {host l r : List UInt8} (hf : foldA host = some l) : authH (host ++ 13 :: r) = .ok (foldN host, 13 :: r) := by
  obtain ⟨h1, h2, h3, h4, h5⟩ := foldA_some hf
  unfold authH
  rw [name_all (by decide) h4 h3 h2 host [] rfl (fun t => rfl)]
  simp [bindH_ok, peekH]
theorem fields_host {host l r : List UInt8} (hf : foldA host = some l) (k : Nat) : fieldsH (k + 1) ([72, 111, 115, 116, 58, 32] ++ host ++ [13, 10] ++ r) = .ok ((1, foldN host), r) := by
  obtain ⟨h1, h2, h3, h4, h5⟩ := foldA_some hf
  have e : [72, 111, 115, 116, 58, 32] ++ host ++ [13, 10] ++ r = (72 : UInt8) :: ([111, 115, 116] ++ 58 :: 32 :: (host ++ 13 :: 10 :: r)) := by simp
  rw [e, fields_eq]
  have e1 : wordB 72 = true := by decide
  have e2 : ¬ (72 : UInt8) = 13 := by decide
  simp only [peekH, bindH_ok, if_neg e2, nextH, e1, if_true]
  rw [run_some (by decide) [111, 115, 116] (by decide)]
  simp only [bindH_ok]
  rw [show (58 : UInt8) :: 32 :: (host ++ 13 :: 10 :: r) = [58] ++ 32 :: (host ++ 13 :: 10 :: r) from rfl, text_at]
  simp only [bindH_ok]
  have hrun : runH blankB (32 :: (host ++ 13 :: 10 :: r)) = .ok ([32], host ++ 13 :: 10 :: r) := by
    cases host with
    | nil => exact absurd rfl h1
    | cons h0 host =>
      have hb : blankB h0 = false := by
        have hg := good_host (h4 h0 (by simp))
        cases hbl : blankB h0 with
        | false => rfl
        | true =>
          exfalso
          unfold blankB at hbl
          unfold hostB capB smallB digB at hg
          simp at hbl hg
          omega
      have := run_some (c := h0) (l := host ++ 13 :: 10 :: r) (p := blankB) hb [32] (by decide)
      simpa using this
  rw [hrun]
  have e3 : equalFold [72, 111, 115, 116] hostL = true := by decide
  simp only [bindH_ok, fieldK, e3, if_true]
  rw [auth_host hf]
  simp only [bindH_ok]
  rw [show runH blankB (13 :: 10 :: r) = .ok ([], 13 :: 10 :: r) by simp [runH, show blankB 13 = false by decide]]
  simp only [bindH_ok]
  rw [show (13 : UInt8) :: 10 :: r = [13, 10] ++ r from rfl, text_at]
  simp only [bindH_ok]
theorem fields_end (k : Nat) (r : List UInt8) : fieldsH (k + 1) ([13, 10] ++ r) = .ok ((2, []), r) := by
  rw [fields_eq]
  rw [show [13, 10] ++ r = (13 : UInt8) :: (10 :: r) from rfl]
  simp only [peekH, bindH_ok, if_true]
  rw [show (13 : UInt8) :: 10 :: r = [13, 10] ++ r from rfl, text_at]
  simp only [bindH_ok]
theorem fields_all : ∀ (fs : List FL) (k : Nat) (r : List UInt8), fs.all fieldOk = true → fieldsH (fs.length + k) ((fs.map lineB).flatten ++ r) = fieldsH k r
  | [], k, r, _ => by simp
  | f :: fs, k, r, h => by
    simp only [List.all_cons, Bool.and_eq_true] at h
    have e : (f :: fs).length + k = (fs.length + k) + 1 := by simp; omega
    rw [e, List.map_cons, List.flatten_cons, List.append_assoc, fields_line h.1, fields_all fs k r h.2]
/-- what http.Look tells of a request: where it ends -/
theorem request_head {host : List UInt8} {fs : List FL} (h : reqOk host fs = true) (hn : fs.length ≤ 100) (x : List UInt8) :
    (host = [] → headH (reqB [] fs ++ x) = .ok ((2, []), x)) ∧ (host ≠ [] → headH (reqB host fs ++ x) = .ok ((1, foldN host), [13, 10] ++ x)) := by
  unfold reqOk at h
  rw [Bool.and_eq_true] at h
  obtain ⟨ho, hf⟩ := h
  obtain ⟨m, hm⟩ : ∃ m, 100000 = fs.length + (m + 1) := ⟨99999 - fs.length, by omega⟩
  constructor
  · intro h0
    have e : reqB [] fs ++ x = reqHead ++ ((fs.map lineB).flatten ++ ([13, 10] ++ x)) := by simp [reqB, hostLine]
    unfold headH
    rw [e, first_req, bindH_ok]
    simp only
    rw [hm, fields_all fs _ _ hf, fields_end]
  · intro h0
    have hs : (foldA host).isSome = true := by
      rw [Bool.or_eq_true] at ho
      rcases ho with h | h
      · simp at h; exact absurd h h0
      · exact h
    obtain ⟨l, hl⟩ := Option.isSome_iff_exists.1 hs
    have e : reqB host fs ++ x = reqHead ++ ((fs.map lineB).flatten ++ ([72, 111, 115, 116, 58, 32] ++ host ++ [13, 10] ++ ([13, 10] ++ x))) := by simp [reqB, hostLine, h0]
    unfold headH
    rw [e, first_req, bindH_ok]
    simp only
    rw [hm, fields_all fs _ _ hf, fields_host hl]
/-- what is told of a beginning -/
theorem head_prefix {b rest : List UInt8} {y : Int × List UInt8} (h : headH b = .ok (y, rest)) (k : Nat) :
    (k + rest.length < b.length → lookH (b.take k) = (0, [])) ∧ (b.length ≤ k + rest.length → lookH (b.take k) = y) := by
  constructor
  · intro hk
    have hz : (lookH (b.take k)).1 = 0 := by
      apply Classical.byContradiction
      intro hne
      unfold lookH at hne
      cases hh : headH (b.take k) with
      | error c =>
        rw [hh] at hne
        have := (stable_head (b.take k) (b.drop k)).2.1 c hh hne
        rw [List.take_append_drop, h] at this
        cases this
      | ok z =>
        obtain ⟨y', r'⟩ := z
        have := (stable_head (b.take k) (b.drop k)).1 y' r' hh
        rw [List.take_append_drop, h] at this
        simp only [Except.ok.injEq, Prod.mk.injEq] at this
        have hl := congrArg List.length this.2
        simp at hl
        omega
    rcases lookH_shape (b.take k) with e | e | e | ⟨nm, e, _⟩
    · exact e
    · rw [e] at hz; cases hz
    · rw [e] at hz; cases hz
    · rw [e] at hz; cases hz
  · intro hk
    obtain ⟨pre, h1, h2⟩ := ends_head b y rest h
    have hl : b.length = (pre ++ [13, 10]).length + rest.length := by rw [h1]; simp; omega
    have ht : b.take k = pre ++ [13, 10] ++ rest.take (k - (pre ++ [13, 10]).length) := by
      rw [h1, List.take_append]
      congr 1
      exact List.take_of_length_le (by omega)
    unfold lookH
    rw [ht, h2]
theorem foldN_upper {host l : List UInt8} (hf : foldA host = some l) : foldA (toUpperD host) = some l ∧ foldN (toUpperD host) = foldN host := by
  have h := foldA_upper hf
  refine ⟨h, ?_⟩
  unfold foldN
  rw [h, hf]
end Go.Proofs.YtpoheemjdieogaaGreatDoor

namespace Go.Proofs.YtpoheemjdieogaaGreatDoor
set_option linter.unusedVariables false
set_option linter.unusedSimpArgs false

theorem beN_u16 {n : Nat} (h : n < 65536) : beN (u16L n) = n := by
  unfold beN u16L
  simp only [List.foldl_cons, List.foldl_nil, UInt8.toNat_ofNat']
  omega
theorem u16L_len (n : Nat) : (u16L n).length = 2 := rfl
theorem getL_cur {bs x post : List UInt8} {s : LS} {n : Nat} (h : bs.drop s.at_ = x ++ post) (hn : x.length = n) : getL bs n s = .ok (x, { s with at_ := s.at_ + n }) := by
  unfold getL
  have hl := congrArg List.length h
  rw [List.length_drop, List.length_append] at hl
  rw [if_neg (by omega), h, List.take_append_of_le_length (by omega), List.take_of_length_le (by omega)]
theorem cur_next {bs x post : List UInt8} {a n : Nat} (h : bs.drop a = x ++ post) (hn : x.length = n) : bs.drop (a + n) = post := by
  rw [← List.drop_drop, h, ← hn, List.drop_left]
theorem numL_cur {bs x post : List UInt8} {s : LS} {n e : Nat} (h : bs.drop s.at_ = x ++ post) (hn : x.length = n) (he : s.at_ + n ≤ e) : numL bs n e s = .ok (beN x, { s with at_ := s.at_ + n }) := by
  unfold numL
  rw [if_neg (by omega), getL_cur h hn]
theorem skipL_cur {bs x post : List UInt8} {s : LS} {n e : Nat} (h : bs.drop s.at_ = x ++ post) (hn : x.length = n) (he : s.at_ + n ≤ e) : skipL bs n e s = .ok { s with at_ := s.at_ + n } := by
  unfold skipL
  rw [if_neg (by omega), getL_cur h hn]
theorem someL_cur {bs x post : List UInt8} {s : LS} {size e n : Nat} {okf : Nat → Nat → Bool} {within : Nat → Nat → LS → Except Int LS} (h : bs.drop s.at_ = x ++ post) (hn : x.length = size) (hb : beN x = n) (he : s.at_ + size + n ≤ e) (hok : okf n (e - (s.at_ + size)) = true) :
    someL bs size e okf within s = within n (s.at_ + size + n) { s with at_ := s.at_ + size } := by
  unfold someL
  rw [numL_cur h hn (by omega)]
  simp only [hb]
  rw [if_pos ⟨hok, by omega⟩]
/-- the names' list with one name -/
theorem listL_one {bs : List UInt8} {a e : Nat} {nm : ByteArray} {sn : Bool} {name low post : List UInt8} (h : bs.drop a = [0] ++ withL name ++ post) (hl : name.length < 65536) (he : e = a + 3 + name.length) (hf : foldA name = some low) :
    listL bs e ⟨a, nm, false, sn⟩ = .ok ⟨e, ⟨low.toArray⟩, true, sn⟩ := by
  unfold listL
  obtain ⟨k, hk⟩ : ∃ k, e - a = k + 2 := ⟨e - a - 2, by omega⟩
  change listG bs (e - a) e ⟨a, nm, false, sn⟩ = _
  rw [hk, listG, if_neg (by show ¬ e ≤ a; omega)]
  have h1 : bs.drop a = [0] ++ (u16L name.length ++ (name ++ post)) := by rw [h]; unfold withL; simp only [List.append_assoc]
  have h2 := cur_next h1 (n := 1) rfl
  have h3 := cur_next h2 (n := 2) rfl
  rw [numL_cur (n := 1) (s := ⟨a, nm, false, sn⟩) h1 rfl (by show a + 1 ≤ e; omega)]
  simp only
  rw [someL_cur (size := 2) (s := ⟨a + 1, nm, false, sn⟩) h2 rfl (beN_u16 hl) (by show a + 1 + 2 + _ ≤ e; omega) rfl]
  simp only
  unfold nameL
  rw [getL_cur (s := ⟨a + 1 + 2, nm, false, sn⟩) h3 rfl]
  simp only
  rw [if_neg (by simp [beN]), hf]
  simp only
  rw [listG, if_pos (by show e ≤ a + 1 + 2 + _; omega)]
  congr 2
  omega
theorem extG_skip {bs : List UInt8} {a e k kind : Nat} {nm : ByteArray} {sn : Bool} {kb x post : List UInt8} (h : bs.drop a = kb ++ withL x ++ post) (hkb : kb.length = 2) (hkind : beN kb = kind) (hk0 : kind ≠ 0) (hl : x.length < 65536) (he : a + 4 + x.length ≤ e) :
    extG bs (k + 1) e ⟨a, nm, false, sn⟩ = extG bs k e ⟨a + 4 + x.length, nm, false, sn⟩ := by
  rw [extG, if_neg (by show ¬ (e ≤ a ∨ false = true); simp; omega)]
  have h1 : bs.drop a = kb ++ (u16L x.length ++ (x ++ post)) := by rw [h]; unfold withL; simp only [List.append_assoc]
  have h2 := cur_next h1 hkb
  have h3 := cur_next h2 (n := 2) rfl
  rw [numL_cur (s := ⟨a, nm, false, sn⟩) h1 hkb (by show a + 2 ≤ e; omega)]
  simp only [hkind]
  rw [someL_cur (size := 2) (s := ⟨a + 2, nm, false, sn⟩) h2 rfl (beN_u16 hl) (by show a + 2 + 2 + _ ≤ e; omega) rfl]
  simp only
  unfold extL
  rw [if_pos hk0, skipL_cur (s := ⟨a + 2 + 2, nm, false, sn⟩) h3 rfl (by show a + 2 + 2 + _ ≤ _; omega)]
theorem extG_name {bs : List UInt8} {a e k : Nat} {nm : ByteArray} {name low post : List UInt8} (h : bs.drop a = [0, 0] ++ withL (withL ([0] ++ withL name)) ++ post) (hl : name.length < 65000) (he : a + 9 + name.length ≤ e) (hf : foldA name = some low) :
    extG bs (k + 2) e ⟨a, nm, false, false⟩ = .ok ⟨a + 9 + name.length, ⟨low.toArray⟩, true, true⟩ := by
  rw [extG, if_neg (by show ¬ (e ≤ a ∨ false = true); simp; omega)]
  have hla : (withL ([0] ++ withL name)).length = name.length + 5 := by rw [withL_len, List.length_append, withL_len]; simp; omega
  have hlb : ([0] ++ withL name).length = name.length + 3 := by rw [List.length_append, withL_len]; simp; omega
  have h1 : bs.drop a = [0, 0] ++ (u16L (name.length + 5) ++ (u16L (name.length + 3) ++ ([0] ++ withL name ++ post))) := by
    rw [h]
    conv => lhs; rw [withL]
    rw [hla]
    conv => lhs; rw [withL]
    rw [hlb]
    simp only [List.append_assoc]
  have h2 := cur_next h1 (n := 2) rfl
  have h3 := cur_next h2 (n := 2) rfl
  have h4 := cur_next h3 (n := 2) rfl
  rw [numL_cur (n := 2) (s := ⟨a, nm, false, false⟩) h1 rfl (by show a + 2 ≤ e; omega)]
  simp only [show beN [0, 0] = 0 from rfl]
  rw [someL_cur (size := 2) (s := ⟨a + 2, nm, false, false⟩) h2 rfl (beN_u16 (n := name.length + 5) (by omega)) (by show a + 2 + 2 + _ ≤ e; omega) rfl]
  simp only
  unfold extL
  rw [if_neg (by simp), if_neg (by simp)]
  rw [someL_cur (size := 2) (s := ⟨a + 2 + 2, nm, false, true⟩) h3 rfl (beN_u16 (n := name.length + 3) (by omega)) (by show a + 2 + 2 + 2 + _ ≤ _; omega) (by simp; omega)]
  simp only
  rw [listL_one (sn := true) (low := low) h4 (by omega) (by omega) hf]
  simp only
  rw [extG, if_pos (.inr rfl)]
  congr 2
  omega
/-- the extensions -/
theorem extsL_all {bs : List UInt8} {a e : Nat} {nm : ByteArray} {name before behind post : List UInt8} (h : bs.drop a = extB name before behind ++ post) (he : e = a + (extB name before behind).length) (hb : before.length ≤ 1000) (hd : behind.length ≤ 1000)
    (hf : name ≠ [] → ∃ low, foldA name = some low) :
    ∃ at', extsL bs e ⟨a, nm, false, false⟩ = .ok (if name = [] then ⟨at', nm, false, false⟩ else ⟨at', ⟨((foldA name).getD []).toArray⟩, true, true⟩) := by
  have hlen : 8 ≤ (extB name before behind).length := by unfold extB; simp only [List.length_append, withL_len]; simp; omega
  unfold extsL
  change ∃ at', extG bs (e - a) e ⟨a, nm, false, false⟩ = _
  obtain ⟨k, hk⟩ : ∃ k, e - a = k + 3 := ⟨e - a - 3, by omega⟩
  rw [hk]
  unfold extB at h he
  have h1 : bs.drop a = [0, 16] ++ withL before ++ ((if name = [] then [] else [0, 0] ++ withL (withL ([0] ++ withL name))) ++ [0, 21] ++ withL behind ++ post) := by rw [h]; simp only [List.append_assoc]
  simp only [List.length_append, withL_len] at he
  rw [extG_skip (kind := 16) h1 rfl rfl (by omega) (by omega) (by simp at he ⊢; omega)]
  have h2 : bs.drop (a + 4 + before.length) = (if name = [] then [] else [0, 0] ++ withL (withL ([0] ++ withL name))) ++ [0, 21] ++ withL behind ++ post := by
    have := cur_next h1 (n := 4 + before.length) (by rw [List.length_append, withL_len]; simp; omega)
    rw [← Nat.add_assoc] at this
    exact this
  by_cases hn : name = []
  · rw [if_pos hn] at h2 he
    simp only [hn, if_true]
    rw [List.nil_append] at h2
    rw [extG_skip (kind := 21) h2 rfl rfl (by omega) (by omega) (by simp at he ⊢; omega)]
    rw [extG, if_pos (.inl (by simp at he ⊢; omega))]
    exact ⟨_, rfl⟩
  · rw [if_neg hn] at h2 he
    simp only [hn, if_false]
    obtain ⟨low, hlow⟩ := hf hn
    have hl := (foldA_some hlow).2.1
    have h3 : bs.drop (a + 4 + before.length) = [0, 0] ++ withL (withL ([0] ++ withL name)) ++ ([0, 21] ++ withL behind ++ post) := by rw [h2]; simp only [List.append_assoc]
    simp only [List.length_append, withL_len] at he
    rw [extG_name (low := low) h3 (by omega) (by simp at he ⊢; omega) hlow, hlow]
    exact ⟨_, rfl⟩
theorem zeros_cut : List.replicate 33 (0 : UInt8) = List.replicate 32 0 ++ [0] := rfl
theorem lookM_all {name before behind : List UInt8} (hb : before.length ≤ 1000) (hd : behind.length ≤ 1000) (hf : name ≠ [] → ∃ low, foldA name = some low) :
    ∃ at', lookM (allB name before behind) = .ok (if name = [] then ⟨at', ByteArray.empty, false, false⟩ else ⟨at', ⟨((foldA name).getD []).toArray⟩, true, true⟩) := by
  have hnl : name.length ≤ 253 := by
    by_cases hn : name = []
    · subst hn; simp
    · obtain ⟨low, hlow⟩ := hf hn
      exact (foldA_some hlow).2.1
  have hel : (extB name before behind).length ≤ 3000 := by
    unfold extB
    simp only [List.length_append, withL_len]
    split
    · simp; omega
    · simp only [List.length_append, withL_len]; simp; omega
  obtain ⟨ext, hext⟩ : ∃ ext, extB name before behind = ext := ⟨_, rfl⟩
  rw [hext] at hel
  have hbl : (bodyB name before behind).length = 43 + ext.length := by unfold bodyB; rw [hext]; simp only [List.length_append, withL_len]; simp; omega
  have h0 : (allB name before behind).drop 0 = [1] ++ ([0] ++ u16L (43 + ext.length) ++ ([3, 3] ++ List.replicate 32 0 ++ ([0] ++ ([0, 2] ++ ([0, 47] ++ ([1] ++ ([0] ++ (u16L ext.length ++ (ext ++ []))))))))) := by
    rw [List.drop_zero]
    unfold allB
    rw [hbl]
    unfold bodyB
    rw [hext, zeros_cut]
    unfold withL
    simp only [List.append_assoc, List.cons_append, List.nil_append, List.append_nil]
  generalize allB name before behind = bs at h0
  have h1 := cur_next h0 (n := 1) rfl
  have h2 := cur_next h1 (n := 3) rfl
  have h3 := cur_next h2 (n := 34) rfl
  have h4 := cur_next h3 (n := 1) rfl
  have h5 := cur_next h4 (n := 2) rfl
  have h6 := cur_next h5 (n := 2) rfl
  have h7 := cur_next h6 (n := 1) rfl
  have h8 := cur_next h7 (n := 1) rfl
  have h9 := cur_next h8 (n := 2) rfl
  unfold lookM ls0
  rw [numL_cur (n := 1) (s := ⟨0, ByteArray.empty, false, false⟩) h0 rfl (by show 0 + 1 ≤ e0; decide)]
  simp only [show beN [1] = 1 from rfl]
  rw [if_neg (by simp)]
  have hb3 : beN ([0] ++ u16L (43 + ext.length)) = 43 + ext.length := by
    have := beN_u16 (n := 43 + ext.length) (by omega)
    unfold beN at *
    rw [List.foldl_append]
    exact this
  rw [someL_cur (size := 3) (s := ⟨0 + 1, ByteArray.empty, false, false⟩) h1 rfl hb3 (by show 0 + 1 + 3 + _ ≤ e0; unfold e0; omega) rfl]
  simp only
  unfold bodyL
  rw [skipL_cur (n := 34) (s := ⟨0 + 1 + 3, ByteArray.empty, false, false⟩) h2 rfl (by show 0 + 1 + 3 + 34 ≤ _; omega)]
  simp only
  rw [someL_cur (size := 1) (n := 0) (s := ⟨0 + 1 + 3 + 34, ByteArray.empty, false, false⟩) h3 rfl rfl (by show 0 + 1 + 3 + 34 + 1 + 0 ≤ _; omega) rfl]
  simp only
  rw [skipL_cur (n := 0) (x := []) (s := ⟨0 + 1 + 3 + 34 + 1, ByteArray.empty, false, false⟩) h4 rfl (by show 0 + 1 + 3 + 34 + 1 + 0 ≤ _; omega)]
  simp only
  rw [someL_cur (size := 2) (n := 2) (s := ⟨0 + 1 + 3 + 34 + 1 + 0, ByteArray.empty, false, false⟩) h4 rfl rfl (by show 0 + 1 + 3 + 34 + 1 + 0 + 2 + 2 ≤ _; omega) rfl]
  simp only
  rw [skipL_cur (n := 2) (s := ⟨0 + 1 + 3 + 34 + 1 + 0 + 2, ByteArray.empty, false, false⟩) h5 rfl (by show 0 + 1 + 3 + 34 + 1 + 0 + 2 + 2 ≤ _; omega)]
  simp only
  rw [someL_cur (size := 1) (n := 1) (s := ⟨0 + 1 + 3 + 34 + 1 + 0 + 2 + 2, ByteArray.empty, false, false⟩) h6 rfl rfl (by show 0 + 1 + 3 + 34 + 1 + 0 + 2 + 2 + 1 + 1 ≤ _; omega) rfl]
  simp only
  rw [skipL_cur (n := 1) (s := ⟨0 + 1 + 3 + 34 + 1 + 0 + 2 + 2 + 1, ByteArray.empty, false, false⟩) h7 rfl (by show 0 + 1 + 3 + 34 + 1 + 0 + 2 + 2 + 1 + 1 ≤ _; omega)]
  simp only
  rw [if_neg (by omega)]
  rw [someL_cur (size := 2) (s := ⟨0 + 1 + 3 + 34 + 1 + 0 + 2 + 2 + 1 + 1, ByteArray.empty, false, false⟩) h8 rfl (beN_u16 (n := ext.length) (by omega)) (by show 0 + 1 + 3 + 34 + 1 + 0 + 2 + 2 + 1 + 1 + 2 + _ ≤ _; omega) (by simp; omega)]
  simp only
  exact extsL_all (post := []) (name := name) (before := before) (behind := behind) (by rw [hext]; exact h9) (by rw [hext]) hb hd hf

/-! ### records -/
theorem recG_out : ∀ (k : Nat) (parts : List Int) (i : Nat) (out all : List UInt8), recG k parts i out all = out ++ recG k parts i [] all
  | 0, parts, i, out, all => by simp [recG]
  | k + 1, parts, i, out, all => by
    rw [recG, recG]
    split
    · simp
    · rw [recG_out k parts (i + 1) (out ++ [22, 3, 1] ++ _ ++ _), recG_out k parts (i + 1) ([] ++ [22, 3, 1] ++ _ ++ _)]
      simp only [List.append_assoc, List.nil_append]
theorem sizeAt_lo {parts : List Int} (h : parts.any lowQ = false) (i : Nat) : 1 ≤ sizeAt parts i ∧ sizeAt parts i ≤ 16384 := by
  unfold sizeAt
  split
  · omega
  · rename_i hne
    have hp : 0 < parts.length := by cases parts with
      | nil => exact absurd rfl hne
      | cons => simp
    have hi : min i (parts.length - 1) < parts.length := by omega
    rw [List.getD_eq_getElem?_getD, List.getElem?_eq_getElem hi, Option.getD_some]
    have := List.any_eq_false.1 h _ (List.getElem_mem hi)
    unfold lowQ at this
    simp at this
    omega
theorem partsG_rec (parts : List Int) (hp : parts.any lowQ = false) : ∀ (k m i : Nat) (out all : List UInt8), all.length ≤ k → (recG k parts i [] all).length ≤ m → partsG m out (recG k parts i [] all) = (out ++ all, false)
  | 0, m, i, out, all, h, _ => by
    have : all = [] := List.eq_nil_of_length_eq_zero (by omega)
    subst this
    cases m <;> simp [recG, partsG]
  | k + 1, m, i, out, all, h, hm => by
    by_cases ha : all = []
    · subst ha
      cases m <;> simp [recG, partsG]
    · have hal : 1 ≤ all.length := by cases all with
        | nil => exact absurd rfl ha
        | cons => simp
      have hs := sizeAt_lo hp i
      obtain ⟨n, hn⟩ : ∃ n, min (sizeAt parts i) all.length = n := ⟨_, rfl⟩
      have hn1 : 1 ≤ n ∧ n ≤ 16384 ∧ n ≤ all.length := by omega
      have e : recG (k + 1) parts i [] all = [22, 3, 1] ++ u16L n ++ (all.take n ++ recG k parts (i + 1) [] (all.drop n)) := by
        rw [recG, if_neg ha, hn, recG_out]
        simp only [List.append_assoc, List.nil_append]
      rw [e] at hm ⊢
      have htl : (all.take n).length = n := by rw [List.length_take]; omega
      simp only [List.length_append, u16L_len, htl] at hm
      obtain ⟨m', rfl⟩ : ∃ m', m = m' + 1 := ⟨m - 1, by simp at hm; omega⟩
      have e2 : [22, 3, 1] ++ u16L n ++ (all.take n ++ recG k parts (i + 1) [] (all.drop n)) = 22 :: 3 :: 1 :: UInt8.ofNat (n / 256) :: UInt8.ofNat n :: (all.take n ++ recG k parts (i + 1) [] (all.drop n)) := rfl
      rw [e2, partsG]
      have hbe : beN ((List.drop 3 (22 :: 3 :: 1 :: UInt8.ofNat (n / 256) :: UInt8.ofNat n :: (all.take n ++ recG k parts (i + 1) [] (all.drop n)))).take 2) = n := beN_u16 (n := n) (by omega)
      simp only [hbe]
      rw [if_neg (by simp), if_neg (by simp), if_neg (by simp; omega)]
      have e3 : List.drop 5 (22 :: 3 :: 1 :: UInt8.ofNat (n / 256) :: UInt8.ofNat n :: (all.take n ++ recG k parts (i + 1) [] (all.drop n))) = all.take n ++ recG k parts (i + 1) [] (all.drop n) := rfl
      rw [e3, List.take_append_of_le_length (by omega), List.take_of_length_le (l := all.take n) (by omega)]
      rw [show (List.take n all ++ recG k parts (i + 1) [] (all.drop n)).drop n = recG k parts (i + 1) [] (all.drop n) from by rw [List.drop_append, htl, List.drop_of_length_le (by omega)]; simp]
      rw [partsG_rec parts hp k m' (i + 1) (out ++ all.take n) (all.drop n) (by rw [List.length_drop]; omega) (by simp at hm; omega)]
      rw [List.append_assoc, List.take_append_drop]
theorem partsL_recs {parts : List Int} (hp : parts.any lowQ = false) (all : List UInt8) : partsL (recsL parts all) = (all, false) := by
  unfold partsL recsL
  rw [partsG_rec parts hp all.length _ 0 [] all (Nat.le_refl _) (Nat.le_refl _)]
  rfl
/-- what a hello tells -/
theorem lookP_hello {name before behind : List UInt8} {parts : List Int} (hb : before.length ≤ 1000) (hd : behind.length ≤ 1000) (hf : name ≠ [] → ∃ low, foldA name = some low) (hp : parts.any lowQ = false) :
    lookP (helloB name before behind parts) = if name = [] then (2, ByteArray.empty) else (1, ⟨((foldA name).getD []).toArray⟩) := by
  obtain ⟨a, h⟩ := lookM_all hb hd hf
  unfold lookP helloB
  rw [partsL_recs hp, h]
  unfold tellL
  by_cases hn : name = []
  · simp [hn]
  · simp [hn]
theorem recG_len : ∀ (k : Nat) (parts : List Int) (i : Nat) (all : List UInt8), (recG k parts i [] all).length ≤ 5 * k + all.length
  | 0, parts, i, all => by simp [recG]
  | k + 1, parts, i, all => by
    rw [recG]
    split
    · simp
    · rw [recG_out]
      have := recG_len k parts (i + 1) (all.drop (min (sizeAt parts i) all.length))
      simp only [List.length_append, u16L_len, List.length_take, List.length_drop] at *
      simp
      omega
theorem helloB_len {name before behind : List UInt8} {parts : List Int} (hb : before.length ≤ 1000) (hd : behind.length ≤ 1000) (hn : name.length ≤ 253) : (helloB name before behind parts).length ≤ 20000 := by
  unfold helloB recsL
  have := recG_len (allB name before behind).length parts 0 (allB name before behind)
  have h2 : (allB name before behind).length ≤ 3300 := by
    unfold allB bodyB extB
    simp only [List.length_append, withL_len, u16L_len]
    split
    · simp; omega
    · simp only [List.length_append, withL_len]; simp; omega
  omega
/-- a beginning tells nothing yet, or what the whole tells -/
theorem lookP_pre {b : List UInt8} {i : Nat} : (lookP (b.take i)).1 = 0 ∨ lookP (b.take i) = lookP b := by
  by_cases h : (lookP (b.take i)).1 = 0
  · exact .inl h
  · right
    have := lookP_stays (b.take i) (b.drop i) h
    rw [List.take_append_drop] at this
    exact this.symm
end Go.Proofs.YtpoheemjdieogaaGreatDoor

namespace Go.Proofs.YtpoheemjdieogaaGreatDoor
open Go.RowKit Go.Lib
set_option linter.unusedVariables false
set_option linter.unusedSimpArgs false

def hReq : List UInt8 := reqB [65, 46, 98] []
def tHel : List UInt8 := helloB [120, 46, 121] [] [] []
theorem sA1 : lookS hReq 16384 false = (1, ⟨#[97, 46, 98]⟩) := by kernel_rfl
theorem sA2 : lookS tHel 16384 false = (1, ⟨#[120, 46, 121]⟩) := by kernel_rfl
theorem sA3 : lookS [] 16384 true = (2, ByteArray.empty) := by kernel_rfl
theorem sA4 : lookS [22] 1 false = (3, ByteArray.empty) := by kernel_rfl
theorem sA5 : reqR [65, 46, 98] [] = (hReq, 0) := by kernel_rfl
theorem sA6 : foldA [120, 46, 121] = some [120, 46, 121] := by kernel_rfl
theorem sA7 : decide (hReq.length ≤ 90000) = true := by kernel_rfl
theorem sA8 : decide (tHel.length ≤ 90000) = true := by kernel_rfl
theorem fields_nil (w : World) : FieldsV w none 0 0 [] := ⟨rfl, Nat.le_refl _, fun h => by omega⟩
set_option maxRecDepth 100000 in
set_option maxHeartbeats 4000000 in
theorem sawake_any (w : World) (hw : LW w) : Calls Tryz.prog 11 #[] w fun e w' => e = .returned (.bool true) ∧ Keeps [] w w' := by
  have HW := Lib.hid hw
  have HA := Lib.hid (request_any w hw [65, 46, 98] none 0 0 [] (fields_nil w) (by omega) (fun f hf => by cases hf) (fun f hf => by cases hf))
  rw [sA5] at HA
  clear hw
  go_enter Tryz.func11, Tryz.ntmps11
  go_wp2_with fail
  refine HA.out.mono ?_
  rintro e w1 ⟨v1, rfl, ho1, k1⟩
  have HO1 := Lib.hid ho1
  have HK1 := Lib.hid k1
  have HB := Lib.hid (hello_named w1 (HW.out.keep0 k1) ⟨#[120, 46, 121]⟩ ⟨by decide, by decide, (foldB_some sA6).2⟩ none none 0 0 0 0 [] [] (BytesV.nil w1) (BytesV.nil w1) (by omega) (by omega) none 0 0 [] ⟨rfl, Nat.le_refl _, by simp [maxLen], fun h => by omega⟩ (by omega) rfl)
  clear ho1 k1 HA
  go_wp2_with fail
  refine HB.out.mono ?_
  rintro e w2 ⟨v2, rfl, ho2, k2⟩
  have HO2 := Lib.hid (show OwnB w2 w1.heap.size v2 tHel from ho2)
  have HK2 := Lib.hid (HK1.out.trans k2)
  have HL1 := Lib.hid (Slook_B w2 (HW.out.keep0 HK2.out) v1 hReq (HO1.out.keep0 k2) (of_decide_eq_true sA7) 16384 false)
  rw [sA1] at HL1
  clear ho2 k2 HB
  go_wp2_with fail
  refine HL1.out.mono ?_
  rintro e w3 ⟨rfl, k3⟩
  have HK3 := Lib.hid (HK2.out.trans k3)
  have HL2 := Lib.hid (Slook_B w3 (HW.out.keep0 (HK2.out.trans k3)) v2 tHel (HO2.out.keep0 k3).bytes (of_decide_eq_true sA8) 16384 false)
  rw [sA2] at HL2
  clear k3 HL1
  go_wp2_with fail
  refine HL2.out.mono ?_
  rintro e w4 ⟨rfl, k4⟩
  have HK4 := Lib.hid (HK3.out.trans k4)
  have HL0 := Lib.hid (Slook_any w4 (HW.out.keep0 (HK3.out.trans k4)) none 0 0 [] (BytesV.nil w4) (by omega) 16384 true)
  rw [sA3] at HL0
  clear k4 HL2
  go_wp2_with fail
  refine HL0.out.mono ?_
  rintro e w5 ⟨rfl, k5⟩
  have HK5 := Lib.hid (HK4.out.trans k5)
  clear k5 HL0
  go_wp2_with fail
  refine calls_gn fun w6 hw6 => ?_
  have k6 : Keeps [] w w6 := by rw [hw6]; exact HK5.out.alloc' _
  have HL3 := Lib.hid (Slook_B w6 (HW.out.keep0 k6) _ [22] (show BytesV w6 _ [22] by rw [hw6]; exact (OwnB.new w5 #[.int .u8 22] [22] rfl (by simp)).bytes) (by simp) 1 false)
  rw [sA4] at HL3
  have HK6 := Lib.hid k6
  clear k6 hw6
  refine HL3.out.mono ?_
  rintro e w7 ⟨rfl, k7⟩
  have HK7 := Lib.hid (HK6.out.trans k7)
  clear k7 HL3
  go_wp2_with fail
  go_ret
  exact ⟨rfl, HK7.out⟩
end Go.Proofs.YtpoheemjdieogaaGreatDoor

namespace Go.Proofs.YtpoheemjdieogaaGreatDoor
open Go.RowKit Go.ChangeShapes Go.WideShapes Go.ChangeAt Go.Joins Go.Lib
set_option linter.unusedVariables false
set_option linter.unusedSimpArgs false

theorem Tryz.cc1 : Tryz.prog.cellsOf 22 = 1 := by kernel_rfl
theorem Tryz.cc4 : Tryz.prog.cellsOf 5 = 1 := by kernel_rfl
theorem Tryz.cc5 : Tryz.prog.cellsOf 4 = 1 := by kernel_rfl
theorem Tryz.ccp : Tryz.prog.cellsOf 29 = 2 := by kernel_rfl
theorem Tryz.ccs : Tryz.prog.cellsOf 40 = 4 := by kernel_rfl
theorem array2 {α : Type} {cs : Array α} (h : cs.size = 2) : ∃ c0 c1, cs = #[c0, c1] := by
  obtain ⟨l⟩ := cs
  match l, h with
  | [c0, c1], _ => exact ⟨c0, c1, rfl⟩
theorem array4 {α : Type} {cs : Array α} (h : cs.size = 4) : ∃ c0 c1 c2 c3, cs = #[c0, c1, c2, c3] := by
  obtain ⟨l⟩ := cs
  match l, h with
  | [c0, c1, c2, c3], _ => exact ⟨c0, c1, c2, c3, rfl⟩
theorem spot_none {W : World} {a : Addr} {v : Value} {i : Nat} (h : W.cell? (a.add i) = some v) (h0 : i = 0) : a.spot = none := by
  subst h0
  unfold World.cell? at h
  simp only [Addr.add, if_true] at h
  split at h
  · split at h
    · cases h
    · rename_i hs; simpa using hs
  · cases h
set_option maxRecDepth 100000 in
theorem bytes_in {H : Type} {enc : TypeId × Value → H} {W : World} {c : Value} {fuel : Nat} {x : DataW H × List MemPlace} (hf : DataW.trod enc Tryz.prog W 0 (fun _ => true) true fuel 22 [c] = some x) : ∃ A n k l, c = .slice A n k ∧ BytesV W (.slice A n k) l := by
  rcases open_ints Tryz.underlying22 Tryz.underlying5 (by kernel_rfl) hf with ⟨hcs, _⟩ | ⟨a, len, cap, zs, hcs, hb, hl, hm, hzl, _, hcell, hwf⟩
  · simp at hcs
    subst hcs
    exact ⟨none, 0, 0, [], rfl, BytesV.nil _⟩
  · simp at hcs
    subst hcs
    simp only [if_true] at hzl
    have h8 : ∀ z ∈ zs, 0 ≤ z ∧ z ≤ 255 := fun z hz => bounds_u8 (hwf z hz)
    refine ⟨some a, len, cap, (zs.take len).map (fun z => UInt8.ofNat z.toNat), rfl, some a, cap, by simp; omega, by simp; omega, hm, fun hp => ?_⟩
    simp at hp
    have hsp := spot_none (hcell 0 (by omega)) rfl
    obtain ⟨blk, off, sp⟩ := a
    simp only at hsp
    subst hsp
    refine ⟨blk, off, rfl, fun i x hx => ?_⟩
    have hi : i < ((zs.take len).map (fun z => UInt8.ofNat z.toNat)).length := (List.getElem?_eq_some_iff.1 hx).1
    simp at hi
    rw [List.getElem?_map, List.getElem?_take, if_pos (by omega), List.getElem?_eq_getElem (by omega)] at hx
    simp only [Option.map_some, Option.some.injEq] at hx
    have ci := hcell i (by omega)
    rw [show (⟨blk, off, none⟩ : Addr).add i = ⟨blk, off + i, none⟩ by unfold Addr.add; split <;> simp_all] at ci
    rw [ci, ← hx]
    have hz := h8 zs[i] (List.getElem_mem _)
    simp only [u8V, List.getD_eq_getElem?_getD, List.getElem?_eq_getElem (show i < zs.length by omega), Option.getD_some]
    congr 2
    simp
    omega
set_option maxRecDepth 100000 in
set_option maxHeartbeats 4000000 in
theorem open_parted {H : Type} {enc : TypeId × Value → H} {W : World} {v : Value} {d : DataW H} {p : List MemPlace} {b0 : Nat} (o : Value.okWide Tryz.prog W .any b0 29 v) (h : DataW.Trod enc Tryz.prog W 0 (fun _ => true) true 29 v d p) :
    ∃ A1 n1 c1 l1 cl, v = .agg #[.slice A1 n1 c1, .bool cl] ∧ BytesV W (.slice A1 n1 c1) l1 := by
  obtain ⟨cs, rfl, hsz⟩ := okWide_struct Tryz.underlying29 o
  obtain ⟨c0, c1, rfl⟩ := array2 (hsz.trans Tryz.ccp)
  obtain ⟨fuel, hf⟩ := h
  obtain ⟨xs, m, _, _, _, hlen, hg⟩ := DataW.trod_struct Tryz.underlying29 hf
  match xs, hlen with
  | [z0, z1], _ =>
    have g0 := hg 0 _ rfl
    have g1 := hg 1 _ rfl
    simp [Value.cells, Tryz.cc5, Tryz.cc1] at g0 g1
    obtain ⟨A1, n1, k1, l1, rfl, hb1⟩ := bytes_in g0
    obtain ⟨cl, q1, _⟩ := DataW.trod_bool Tryz.underlying4 g1
    simp at q1
    subst q1
    exact ⟨A1, n1, k1, l1, cl, rfl, hb1⟩
set_option maxRecDepth 100000 in
set_option maxHeartbeats 4000000 in
theorem open_said {H : Type} {enc : TypeId × Value → H} {W : World} {v : Value} {d : DataW H} {p : List MemPlace} {b0 : Nat} (o : Value.okWide Tryz.prog W .any b0 40 v) (h : DataW.Trod enc Tryz.prog W 0 (fun _ => true) true 40 v d p) :
    ∃ up A1 n1 c1 l1 A2 n2 c2 l2 pt, v = .agg #[.bool up, .slice A1 n1 c1, .slice A2 n2 c2, .int .u8 ((pt : Nat) : Int)] ∧ pt < 256 ∧ BytesV W (.slice A1 n1 c1) l1 ∧ BytesV W (.slice A2 n2 c2) l2 := by
  obtain ⟨cs, rfl, hsz⟩ := okWide_struct Tryz.underlying40 o
  obtain ⟨c0, c1, c2, c3, rfl⟩ := array4 (hsz.trans Tryz.ccs)
  obtain ⟨fuel, hf⟩ := h
  obtain ⟨xs, m, _, _, _, hlen, hg⟩ := DataW.trod_struct Tryz.underlying40 hf
  match xs, hlen with
  | [z0, z1, z2, z3], _ =>
    have g0 := hg 0 _ rfl
    have g1 := hg 1 _ rfl
    have g2 := hg 2 _ rfl
    have g3 := hg 3 _ rfl
    simp [Value.cells, Tryz.cc5, Tryz.cc1, Tryz.cc4] at g0 g1 g2 g3
    obtain ⟨up, q0, _⟩ := DataW.trod_bool Tryz.underlying4 g0
    simp at q0
    subst q0
    obtain ⟨A1, n1, k1, l1, rfl, hb1⟩ := bytes_in g1
    obtain ⟨A2, n2, k2, l2, rfl, hb2⟩ := bytes_in g2
    obtain ⟨n, q3, _, hw⟩ := DataW.trod_int Tryz.underlying5 g3
    simp at q3
    subst q3
    have hb := bounds_u8 hw
    refine ⟨up, A1, n1, k1, l1, A2, n2, k2, l2, n.toNat, ?_, by omega, hb1, hb2⟩
    rw [Int.toNat_of_nonneg hb.1]
set_option maxRecDepth 100000 in
theorem open_u16 {H : Type} {enc : TypeId × Value → H} {W : World} {v : Value} {d : DataW H} {p : List MemPlace} {b0 : Nat} (o : Value.okWide Tryz.prog W .any b0 27 v) (h : DataW.Trod enc Tryz.prog W 0 (fun _ => true) true 27 v d p) :
    ∃ n : Nat, v = .int .u16 n ∧ n < 65536 := by
  obtain ⟨z, rfl⟩ := okWide_int Tryz.underlying27 o
  obtain ⟨fuel, hf⟩ := h
  obtain ⟨n, q0, _, hw⟩ := DataW.trod_int Tryz.underlying27 hf
  simp [Value.cells] at q0
  subst q0
  have hb := bounds_u16 hw
  exact ⟨z.toNat, by rw [Int.toNat_of_nonneg hb.1], by omega⟩
end Go.Proofs.YtpoheemjdieogaaGreatDoor

