/-
  The plain law of EndpSends: an end towards a server that is open, its peer, and what is lost: every step either ends well, or fails behind ten losses, or goes on, and behind 60 segments only so often. Of no program. No condition.
-/
import Derived.WalkKit
namespace Go.Proofs.YtakgohocimlagaaGreat
set_option linter.unusedVariables false
set_option linter.unusedSimpArgs false

/-- what an open end sends: an ACK without data, or a piece -/
inductive SK where
  | ack
  | pc (at_ len : Nat)
def SK.at_ : SK → Nat
  | .ack => 0
  | .pc a _ => a
/-- is the m-th segment lost? -/
def lostB (ls : List Bool) (m : Nat) : Bool := ls.getD m false
theorem lostB_end {ls : List Bool} {m : Nat} (h : ls.length ≤ m) : lostB ls m = false := by
  unfold lostB
  rw [List.getD_eq_getElem?_getD, List.getElem?_eq_none h]
  rfl
/-- what the peer has got, behind a piece -/
def gotS (G a l : Nat) : Nat := if a ≤ G ∧ G < a + l then a + l else G
theorem gotS_le (G a l : Nat) : G ≤ gotS G a l := by unfold gotS; split <;> omega
theorem gotS_max {G a l N : Nat} (h : G ≤ N) (h2 : a + l ≤ N) : gotS G a l ≤ N := by unfold gotS; split <;> omega
theorem gotS_near {G a l : Nat} (h : a ≤ G) : a + l ≤ gotS G a l := by unfold gotS; split <;> omega
/-- the peer's turn: what it acknowledges, what it has got, how many segments there were, how many are lost -/
def ph1 (ls : List Bool) : Nat → Nat → Nat → List SK → List Nat × Nat × Nat × Nat
  | G, m, g, [] => ([], G, m, g)
  | G, m, g, o :: r => if lostB ls m = true then ph1 ls G (m + 1) (g + 1) r else match o with
    | .ack => ph1 ls G (m + 1) g r
    | .pc a l => (gotS G a l :: (ph1 ls (gotS G a l) (m + 1) g r).1, (ph1 ls (gotS G a l) (m + 1) g r).2)
/-- the pieces from a place up to another one -/
def cutsK (k mss f e : Nat) : List SK := match k with
  | 0 => []
  | k + 1 => if f < e then .pc f (min (f + mss) e - f) :: cutsK k mss (min (f + mss) e) e else []
theorem cutsK_mem {mss e : Nat} (hm : 1 ≤ mss) : ∀ {k f : Nat} {o : SK}, o ∈ cutsK k mss f e → ∃ a l, o = .pc a l ∧ 0 < l ∧ f ≤ a ∧ a + l ≤ e
  | 0, f, o, h => by simp [cutsK] at h
  | k + 1, f, o, h => by
    unfold cutsK at h
    split at h
    · rename_i hf
      rcases List.mem_cons.1 h with rfl | h
      · exact ⟨f, _, rfl, by omega, Nat.le_refl _, by omega⟩
      · obtain ⟨a, l, h1, h2, h3, h4⟩ := cutsK_mem hm h
        exact ⟨a, l, h1, h2, by omega, h4⟩
    · cases h
/-- the end: acknowledged, sent; its count, wait, alarm -/
structure SE where
  A : Nat
  N : Nat
  cnt : Nat
  wait : Nat
  alarm : Nat
/-- what all may be sent -/
def SE.upto (s : SE) (T win : Nat) : Nat := max s.N (min T (s.A + win))
/-- an acknowledgement is taken -/
def SE.ackd (s : SE) (rto now g : Nat) : SE := if s.A < g then ⟨g, s.N, 0, rto, now + rto⟩ else s
def SE.took (s : SE) (T win rto now g : Nat) : SE := { s.ackd rto now g with N := (s.ackd rto now g).upto T win }
def SE.sends (s : SE) (T win mss rto now g : Nat) : List SK := cutsK T mss s.N (min T ((s.ackd rto now g).A + win))
/-- the end's turn -/
def ph2 (ls : List Bool) (T win mss rto now : Nat) : SE → Nat → Nat → List Nat → List SK × SE × Nat × Nat
  | s, m, g, [] => ([], s, m, g)
  | s, m, g, a :: r => if lostB ls m = true then ph2 ls T win mss rto now s (m + 1) (g + 1) r else
    (s.sends T win mss rto now a ++ (ph2 ls T win mss rto now (s.took T win rto now a) (m + 1) g r).1, (ph2 ls T win mss rto now (s.took T win rto now a) (m + 1) g r).2)
def SE.tickN (s : SE) (T win mss : Nat) : Nat := max (min mss (min (T - s.A) win)) 1
def SE.ticked (s : SE) (T win mss : Nat) : SE := ⟨s.A, max s.N (s.A + s.tickN T win mss), s.cnt + 1, s.wait * 2, s.alarm + s.wait * 2⟩
/-- all that is known of an open end at the head of a step -/
structure SInv (T win : Nat) (s : SE) (G gone : Nat) (out : List SK) : Prop where
  AG : s.A ≤ G
  GN : G ≤ s.N
  NT : s.N ≤ T
  all : min T (s.A + win) ≤ s.N
  pcs : ∀ a l, SK.pc a l ∈ out → 0 < l ∧ s.A ≤ a ∧ a + l ≤ s.N ∧ (l = 1 ∨ a + l ≤ s.A + win)
  cnt : s.cnt ≤ gone ∨ (s.cnt ≤ gone + 1 ∧ ∃ l, out = [.pc s.A l] ∧ 0 < l)
/-- how far it is to the end -/
def muS (T : Nat) (s : SE) (out : List SK) : Nat := 2 * (T - s.A) + match out with
  | [.pc a _] => if a = s.A then 0 else 1
  | _ => 1
theorem muS_le (T : Nat) (s : SE) (out : List SK) : muS T s out ≤ 2 * (T - s.A) + 1 ∧ 2 * (T - s.A) ≤ muS T s out := by
  unfold muS
  split
  · split <;> omega
  · omega
theorem muS_tick (T : Nat) (s : SE) (l : Nat) : muS T s [.pc s.A l] = 2 * (T - s.A) := by simp [muS]

/-! ### the peer's turn -/
theorem ph1_facts (ls : List Bool) (N : Nat) : ∀ (out : List SK) (G m g : Nat), G ≤ N → (∀ a l, SK.pc a l ∈ out → a + l ≤ N) →
    G ≤ (ph1 ls G m g out).2.1 ∧ (ph1 ls G m g out).2.1 ≤ N ∧ (ph1 ls G m g out).2.2.1 = m + out.length ∧ g ≤ (ph1 ls G m g out).2.2.2 ∧ (∀ x ∈ (ph1 ls G m g out).1, G ≤ x ∧ x ≤ (ph1 ls G m g out).2.1)
  | [], G, m, g, h, _ => ⟨Nat.le_refl _, h, rfl, Nat.le_refl _, fun x hx => by cases hx⟩
  | o :: r, G, m, g, h, ho => by
    have hr : ∀ a l, SK.pc a l ∈ r → a + l ≤ N := fun a l hm => ho a l (List.mem_cons_of_mem _ hm)
    unfold ph1
    split
    · obtain ⟨h1, h2, h3, h4, h5⟩ := ph1_facts ls N r G (m + 1) (g + 1) h hr
      exact ⟨h1, h2, by rw [h3, List.length_cons]; omega, by omega, h5⟩
    · cases o with
      | ack =>
        obtain ⟨h1, h2, h3, h4, h5⟩ := ph1_facts ls N r G (m + 1) g h hr
        exact ⟨h1, h2, by rw [h3, List.length_cons]; omega, h4, h5⟩
      | pc a l =>
        have hN := gotS_max h (ho a l (List.mem_cons_self ..))
        obtain ⟨h1, h2, h3, h4, h5⟩ := ph1_facts ls N r (gotS G a l) (m + 1) g hN hr
        have := gotS_le G a l
        refine ⟨by simp only; omega, h2, by simp only; rw [h3, List.length_cons]; omega, h4, fun x hx => ?_⟩
        rcases List.mem_cons.1 hx with rfl | hx
        · exact ⟨this, h1⟩
        · exact ⟨Nat.le_trans this (h5 x hx).1, (h5 x hx).2⟩
/-- nothing is lost any more: none is counted, every piece is answered -/
theorem ph1_clean (ls : List Bool) : ∀ (out : List SK) (G m g : Nat), ls.length ≤ m → (ph1 ls G m g out).2.2.2 = g ∧ ((∃ a l, SK.pc a l ∈ out) → (ph1 ls G m g out).1 ≠ [])
  | [], G, m, g, h => ⟨rfl, fun ⟨a, l, hm⟩ => by cases hm⟩
  | o :: r, G, m, g, h => by
    unfold ph1
    rw [lostB_end h, if_neg (by simp)]
    cases o with
    | ack =>
      obtain ⟨h1, h2⟩ := ph1_clean ls r G (m + 1) g (by omega)
      refine ⟨h1, fun ⟨a, l, hm⟩ => h2 ⟨a, l, ?_⟩⟩
      rcases List.mem_cons.1 hm with e | e
      · cases e
      · exact e
    | pc a l =>
      obtain ⟨h1, h2⟩ := ph1_clean ls r (gotS G a l) (m + 1) g (by omega)
      exact ⟨h1, fun _ => by simp⟩
/-! ### the end's turn -/
theorem took_A (s : SE) (T win rto now g : Nat) : (s.took T win rto now g).A = max s.A g := by
  unfold SE.took SE.ackd
  split <;> simp only <;> omega
theorem ackd_A (s : SE) (rto now g : Nat) : (s.ackd rto now g).A = max s.A g := by
  unfold SE.ackd
  split <;> (try simp only) <;> omega
theorem ackd_N (s : SE) (rto now g : Nat) : (s.ackd rto now g).N = s.N := by
  unfold SE.ackd
  split <;> rfl
theorem took_N (s : SE) (T win rto now g : Nat) : (s.took T win rto now g).N = max s.N (min T (max s.A g + win)) := by
  unfold SE.took SE.upto
  simp only [ackd_A, ackd_N]
theorem took_cnt (s : SE) (T win rto now g : Nat) : (s.took T win rto now g).cnt = if s.A < g then 0 else s.cnt := by
  unfold SE.took SE.ackd
  split <;> simp [*]
theorem ph2_facts (ls : List Bool) (T win mss rto now G : Nat) (hm : 1 ≤ mss) : ∀ (back : List Nat) (s : SE) (m g : Nat), s.A ≤ G → G ≤ s.N → s.N ≤ T → min T (s.A + win) ≤ s.N → (∀ x ∈ back, x ≤ G) →
    s.A ≤ (ph2 ls T win mss rto now s m g back).2.1.A ∧ (ph2 ls T win mss rto now s m g back).2.1.A ≤ G ∧ s.N ≤ (ph2 ls T win mss rto now s m g back).2.1.N ∧ (ph2 ls T win mss rto now s m g back).2.1.N ≤ T ∧
    min T ((ph2 ls T win mss rto now s m g back).2.1.A + win) ≤ (ph2 ls T win mss rto now s m g back).2.1.N ∧ (ph2 ls T win mss rto now s m g back).2.2.1 = m + back.length ∧ g ≤ (ph2 ls T win mss rto now s m g back).2.2.2 ∧
    (∀ o ∈ (ph2 ls T win mss rto now s m g back).1, ∃ a l, o = SK.pc a l ∧ 0 < l ∧ G ≤ a ∧ a + l ≤ (ph2 ls T win mss rto now s m g back).2.1.N ∧ a + l ≤ (ph2 ls T win mss rto now s m g back).2.1.A + win) ∧
    ((ph2 ls T win mss rto now s m g back).2.1.cnt = 0 ∨ ((ph2 ls T win mss rto now s m g back).2.1.cnt = s.cnt ∧ (ph2 ls T win mss rto now s m g back).2.1.A = s.A ∧ (ph2 ls T win mss rto now s m g back).1 = []))
  | [], s, m, g, h1, h2, h3, h4, hb => ⟨Nat.le_refl _, h1, Nat.le_refl _, h3, h4, rfl, Nat.le_refl _, (fun o ho => (by cases ho)), .inr ⟨rfl, rfl, rfl⟩⟩
  | b :: r, s, m, g, h1, h2, h3, h4, hb => by
    have hr : ∀ x ∈ r, x ≤ G := fun x hx => hb x (List.mem_cons_of_mem _ hx)
    have hbG := hb b (List.mem_cons_self ..)
    unfold ph2
    split
    · obtain ⟨e1, e2, e3, e4, e5, e6, e7, e8, e9⟩ := ph2_facts ls T win mss rto now G hm r s (m + 1) (g + 1) h1 h2 h3 h4 hr
      exact ⟨e1, e2, e3, e4, e5, by rw [e6, List.length_cons]; omega, by omega, e8, e9⟩
    · have tA := took_A s T win rto now b
      have tN := took_N s T win rto now b
      have tc := took_cnt s T win rto now b
      obtain ⟨e1, e2, e3, e4, e5, e6, e7, e8, e9⟩ := ph2_facts ls T win mss rto now G hm r (s.took T win rto now b) (m + 1) g (by omega) (by omega) (by omega) (by omega) hr
      refine ⟨by simp only; omega, e2, by simp only; omega, e4, e5, by simp only; rw [e6, List.length_cons]; omega, e7, fun o ho => ?_, ?_⟩
      · rcases List.mem_append.1 ho with ho | ho
        · unfold SE.sends at ho
          obtain ⟨a, l, p1, p2, p3, p4⟩ := cutsK_mem hm ho
          rw [ackd_A] at p4
          exact ⟨a, l, p1, p2, by omega, by simp only; omega, by simp only; omega⟩
        · exact e8 o ho
      · by_cases hlt : s.A < b
        · rw [if_pos hlt] at tc
          rcases e9 with e9 | ⟨e9, _⟩
          · exact .inl e9
          · exact .inl (by rw [e9, tc])
        · rw [if_neg hlt] at tc
          rcases e9 with e9 | ⟨e9, e10, e11⟩
          · exact .inl e9
          · refine .inr ⟨by simp only; rw [e9, tc], by simp only; rw [e10]; omega, ?_⟩
            have hnil : s.sends T win mss rto now b = [] := by
              unfold SE.sends
              rw [ackd_A]
              have : ¬ s.N < min T (max s.A b + win) := by omega
              cases T with
              | zero => rfl
              | succ T => unfold cutsK; rw [if_neg this]
            simp only
            rw [hnil, e11]
            rfl
theorem ph2_mono (ls : List Bool) (T win mss rto now : Nat) : ∀ (back : List Nat) (s : SE) (m g : Nat), s.A ≤ (ph2 ls T win mss rto now s m g back).2.1.A
  | [], s, m, g => Nat.le_refl _
  | b :: r, s, m, g => by
    unfold ph2
    split
    · exact ph2_mono ls T win mss rto now r s (m + 1) (g + 1)
    · have h1 := ph2_mono ls T win mss rto now r (s.took T win rto now b) (m + 1) g
      have h2 := took_A s T win rto now b
      simp only
      omega
/-- nothing is lost any more: none is counted, every acknowledgement is taken -/
theorem ph2_clean (ls : List Bool) (T win mss rto now : Nat) : ∀ (back : List Nat) (s : SE) (m g : Nat), ls.length ≤ m → (ph2 ls T win mss rto now s m g back).2.2.2 = g ∧ ∀ x ∈ back, x ≤ (ph2 ls T win mss rto now s m g back).2.1.A
  | [], s, m, g, h => ⟨rfl, fun x hx => by cases hx⟩
  | b :: r, s, m, g, h => by
    unfold ph2
    rw [lostB_end h, if_neg (by simp)]
    obtain ⟨h1, h2⟩ := ph2_clean ls T win mss rto now r (s.took T win rto now b) (m + 1) g (by omega)
    refine ⟨h1, fun x hx => ?_⟩
    rcases List.mem_cons.1 hx with rfl | hx
    · have tA := took_A s T win rto now x
      have := ph2_mono ls T win mss rto now r (s.took T win rto now x) (m + 1) g
      simp only
      omega
    · exact h2 x hx

/-! ### a whole step of an open end -/
/-- what comes out of a step: failed; or it goes on (or is done) -/
structure StepS where
  failed : Bool
  s : SE
  G : Nat
  now : Nat
  m : Nat
  g : Nat
  out : List SK
def stepS (ls : List Bool) (T win mss rto tries now : Nat) (s : SE) (G m g : Nat) (out : List SK) : StepS :=
  let p := ph1 ls G m g out
  let q := ph2 ls T win mss rto now s p.2.2.1 p.2.2.2 p.1
  match q.1 with
  | [] => if q.2.1.A < T then
      if q.2.1.cnt = tries then ⟨true, q.2.1, p.2.1, q.2.1.alarm, q.2.2.1, q.2.2.2, []⟩
      else ⟨false, q.2.1.ticked T win mss, p.2.1, q.2.1.alarm, q.2.2.1, q.2.2.2, [.pc q.2.1.A (q.2.1.tickN T win mss)]⟩
    else ⟨false, q.2.1, p.2.1, now, q.2.2.1, q.2.2.2, []⟩
  | o :: r => ⟨false, q.2.1, p.2.1, now, q.2.2.1, q.2.2.2, o :: r⟩
theorem tickN_bd {s : SE} {T win mss : Nat} (h : s.A < T) : 0 < s.tickN T win mss ∧ s.A + s.tickN T win mss ≤ T ∧ (s.tickN T win mss = 1 ∨ s.tickN T win mss ≤ win) := by
  unfold SE.tickN
  omega
/-- THE STEP: from what is known, not done, with something on its way: failed behind as many losses as tries; or done; or all is known again, and it is nearer, where nothing is lost any more. -/
theorem stepS_ok (ls : List Bool) {T win mss rto tries now : Nat} {s : SE} {G m g : Nat} {out : List SK} (hm : 1 ≤ mss) (h : SInv T win s G g out) (hA : s.A < T) (hne : out ≠ []) :
    m + 1 ≤ (stepS ls T win mss rto tries now s G m g out).m ∧ g ≤ (stepS ls T win mss rto tries now s G m g out).g ∧
    ((stepS ls T win mss rto tries now s G m g out).failed = true → tries ≤ (stepS ls T win mss rto tries now s G m g out).g) ∧
    ((stepS ls T win mss rto tries now s G m g out).failed = false →
      ((stepS ls T win mss rto tries now s G m g out).s.A = T ∧ (stepS ls T win mss rto tries now s G m g out).G = T) ∨
      ((stepS ls T win mss rto tries now s G m g out).s.A < T ∧ (stepS ls T win mss rto tries now s G m g out).out ≠ [] ∧ SInv T win (stepS ls T win mss rto tries now s G m g out).s (stepS ls T win mss rto tries now s G m g out).G (stepS ls T win mss rto tries now s G m g out).g (stepS ls T win mss rto tries now s G m g out).out ∧
        (ls.length ≤ m → muS T (stepS ls T win mss rto tries now s G m g out).s (stepS ls T win mss rto tries now s G m g out).out < muS T s out))) := by
  obtain ⟨AG, GN, NT, all, pcs, cnt⟩ := h
  obtain ⟨p, hp⟩ : ∃ p, ph1 ls G m g out = p := ⟨_, rfl⟩
  obtain ⟨f1, f2, f3, f4, f5⟩ := ph1_facts ls s.N out G m g GN (fun a l ho => (pcs a l ho).2.2.1)
  have c1 := ph1_clean ls out G m g
  have near : ∀ a l, out = [.pc a l] → (ls.getD m false = true ∧ p.1 = [] ∧ p.2.2.2 = g + 1) ∨ (p.1 = [gotS G a l] ∧ p.2.1 = gotS G a l ∧ p.2.2.1 = m + 1 ∧ p.2.2.2 = g) := by
    intro a l ho
    rw [← hp, ho]
    unfold ph1
    split
    · rename_i hl; exact .inl ⟨hl, rfl, rfl⟩
    · exact .inr ⟨rfl, rfl, rfl, rfl⟩
  rw [hp] at f1 f2 f3 f4 f5 c1
  obtain ⟨back, G', m', g'⟩ := p
  simp only at f1 f2 f3 f4 f5 c1 near
  obtain ⟨q, hq⟩ : ∃ q, ph2 ls T win mss rto now s m' g' back = q := ⟨_, rfl⟩
  obtain ⟨e1, e2, e3, e4, e5, e6, e7, e8, e9⟩ := ph2_facts ls T win mss rto now G' hm back s m' g' (by omega) f2 NT all (fun x hx => (f5 x hx).2)
  have c2 := ph2_clean ls T win mss rto now back s m' g'
  have near2 : ∀ b, back = [b] → (g' + 1 = q.2.2.2) ∨ q.2.1 = s.took T win rto now b := by
    intro b hb
    rw [← hq, hb]
    unfold ph2
    split
    · exact .inl rfl
    · exact .inr rfl
  rw [hq] at e1 e2 e3 e4 e5 e6 e7 e8 e9 c2
  obtain ⟨out', s', m2, g2⟩ := q
  simp only at e1 e2 e3 e4 e5 e6 e7 e8 e9 c2 near2
  have hlen : 1 ≤ out.length := by cases out with | nil => exact absurd rfl hne | cons _ _ => simp
  -- the losses that the count asks
  have hcnt : s'.cnt ≤ g2 := by
    rcases e9 with e | ⟨ec, eA, eo⟩
    · omega
    · rcases cnt with hc | ⟨hc, l, ho, hl⟩
      · omega
      · rcases near _ _ ho with ⟨_, _, hg⟩ | ⟨hb, hG, hmm, hg⟩
        · omega
        · have hgt := gotS_near (G := G) (l := l) AG
          rcases near2 _ hb with hg2 | hs
          · omega
          · have hA2 := took_A s T win rto now (gotS G s.A l)
            rw [← hs] at hA2
            omega
  -- nearer, where nothing is lost
  have hprog : ls.length ≤ m → s.A < s'.A ∨ (s'.A = s.A ∧ out' = [] ∧ muS T s out = 2 * (T - s.A) + 1) := by
    intro hls
    obtain ⟨hg, hback⟩ := c2 (by omega)
    by_cases hx : ∃ x ∈ back, s.A < x
    · obtain ⟨x, hx1, hx2⟩ := hx
      have := hback x hx1
      exact .inl (by omega)
    · have hno : ∀ x ∈ back, x ≤ s.A := fun x hxm => by
        rcases Nat.lt_or_ge s.A x with h | h
        · exact absurd ⟨x, hxm, h⟩ hx
        · exact h
      rcases Nat.lt_or_ge s.A s'.A with h | h
      · exact .inl h
      · refine .inr ⟨by omega, ?_, ?_⟩
        · rcases e9 with e | ⟨ec, eA, eo⟩
          · -- pieces would begin behind what is sent
            cases ho' : out' with
            | nil => rfl
            | cons o r =>
              obtain ⟨a, l, rfl, hl, ha1, ha2, ha3⟩ := e8 o (by rw [ho']; exact List.mem_cons_self ..)
              exfalso
              have key : ∀ (back : List Nat) (s : SE) (m g : Nat), (∀ x ∈ back, x ≤ s.A) → min T (s.A + win) ≤ s.N → (ph2 ls T win mss rto now s m g back).1 = [] := by
                intro back
                induction back with
                | nil => intros; rfl
                | cons b r ih =>
                  intro s m g hb ha
                  unfold ph2
                  split
                  · exact ih s _ _ (fun x hx => hb x (List.mem_cons_of_mem _ hx)) ha
                  · have hbA := hb b (List.mem_cons_self ..)
                    have tA := took_A s T win rto now b
                    have tN := took_N s T win rto now b
                    have hnil : s.sends T win mss rto now b = [] := by
                      unfold SE.sends
                      rw [ackd_A]
                      have : ¬ s.N < min T (max s.A b + win) := by omega
                      cases T with
                      | zero => rfl
                      | succ T => unfold cutsK; rw [if_neg this]
                    simp only
                    rw [hnil, ih (s.took T win rto now b) _ _ (fun x hx => by have := hb x (List.mem_cons_of_mem _ hx); omega) (by omega)]
                    rfl
              have := key back s m' g' hno all
              rw [hq] at this
              simp only at this
              rw [ho'] at this
              cases this
          · exact eo
        · -- it was not a piece at A
          unfold muS
          split
          · rename_i xx a l
            by_cases ha : a = s.A
            · exfalso
              subst ha
              rcases near _ _ rfl with ⟨hl, _⟩ | ⟨hb, _⟩
              · have := lostB_end hls; unfold lostB at this; rw [this] at hl; cases hl
              · have h0 := (pcs s.A l (List.mem_cons_self ..)).1
                have hgt := gotS_near (G := G) (l := l) AG
                have := hno (gotS G s.A l) (by rw [hb]; exact List.mem_cons_self ..)
                omega
            · rw [if_neg ha]
          · rfl
  unfold stepS
  rw [hp]
  simp only
  rw [hq]
  simp only
  cases ho' : out' with
  | nil =>
    simp only
    by_cases hd : s'.A < T
    · rw [if_pos hd]
      by_cases hc : s'.cnt = tries
      · rw [if_pos hc]
        exact ⟨by simp only; omega, by simp only; omega, (fun _ => by simp only; omega), (fun h => by cases h)⟩
      · rw [if_neg hc]
        obtain ⟨t1, t2, t3⟩ := tickN_bd (s := s') (win := win) (mss := mss) hd
        refine ⟨by simp only; omega, by simp only; omega, (fun h => by cases h), fun _ => .inr ⟨hd, by simp, ⟨?_, ?_, ?_, ?_, ?_, ?_⟩, ?_⟩⟩
        · simp only [SE.ticked]; omega
        · simp only [SE.ticked]; omega
        · simp only [SE.ticked]; omega
        · simp only [SE.ticked]; omega
        · intro a l hm
          simp only [List.mem_singleton, SK.pc.injEq] at hm
          obtain ⟨rfl, rfl⟩ := hm
          simp only [SE.ticked]
          refine ⟨t1, Nat.le_refl _, by omega, ?_⟩
          rcases t3 with h | h
          · exact .inl h
          · exact .inr (by omega)
        · exact .inr ⟨by simp only [SE.ticked]; omega, _, rfl, t1⟩
        · intro hls
          have h1 := muS_tick T (s'.ticked T win mss) (s'.tickN T win mss)
          have h2 := muS_le T s out
          have e : (s'.ticked T win mss).A = s'.A := rfl
          simp only
          rw [e] at h1
          rw [h1]
          rcases hprog hls with h | ⟨h3, _, h5⟩
          · omega
          · omega
    · rw [if_neg hd]
      exact ⟨by simp only; omega, by simp only; omega, (fun h => by cases h), fun _ => .inl ⟨by simp only; omega, by simp only; omega⟩⟩
  | cons o r =>
    simp only
    refine ⟨by omega, by omega, (fun h => by cases h), fun _ => ?_⟩
    by_cases hd : s'.A < T
    · refine .inr ⟨hd, by simp, ⟨e2, by omega, e4, e5, ?_, .inl hcnt⟩, ?_⟩
      · intro a l hmem
        rw [← ho'] at hmem
        obtain ⟨a', l', hk, k1, k2, k3, k4⟩ := e8 _ hmem
        cases hk
        exact ⟨k1, by omega, k3, .inr k4⟩
      · intro hls
        have h2 := muS_le T s out
        have h3 := muS_le T s' (o :: r)
        rcases hprog hls with h | ⟨_, h4, _⟩
        · omega
        · rw [ho'] at h4; cases h4
    · exact .inl ⟨by omega, by omega⟩
/-! ### how many steps -/
/-- A step further: as many segments as steps; behind 60 steps nothing is lost, and each step is nearer. -/
theorem pot_step {k m m' mu mu' L : Nat} (hL : L ≤ 60) (h1 : k ≤ m) (h2 : k ≤ 60 ∨ k + mu ≤ 863) (hmu : mu ≤ 803) (hm : m + 1 ≤ m') (hp : L ≤ m → mu' < mu) (hmu' : mu' ≤ 803) : k + 1 ≤ m' ∧ (k + 1 ≤ 60 ∨ k + 1 + mu' ≤ 863) := by
  refine ⟨by omega, ?_⟩
  by_cases h : k < 60
  · exact .inl (by omega)
  · have := hp (by omega)
    exact .inr (by omega)
theorem pot_end {k mu : Nat} (h2 : k ≤ 60 ∨ k + mu ≤ 863) : k < 3000 := by omega
end Go.Proofs.YtakgohocimlagaaGreat
