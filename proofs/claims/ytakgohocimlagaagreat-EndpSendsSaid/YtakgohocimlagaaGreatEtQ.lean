/-
  EndpSends (1): segments as they lie, what they are; rows of them; what an open end is, as it lies and plainly. No condition. EndpSends (2): an open end, plainly and as it lies: what Take, Write, Tick, Alarm, Done, State do. Condition: numbers are in the ranges of their kinds. EndpSends (4): the peer's turn and the end's, over all that may come; whole steps. Plain. No condition. EndpSends (5): what the law's walk keeps in memory; drop; tcp.May at what is sent. Condition: a row of bools in memory. EndpSends (3): the end's states, plainly and as they lie: opening, open but not all written, open; Take, Alarm, Tick, Done, State, Write of each; what else may change. Condition: numbers are in the ranges of their kinds. EndpSends (6): all that the walk keeps in memory within a step, and what its parts do to it. No condition. EndpSends (7): the law's frame, its blocks, a loop and a cut over it. No condition.
-/
import Derived.Test.YtakgohocimlagaaGreatEsQ
import Derived.Test.YtakgohocimlagaaGreatEsM
import Derived.Test.YtakgohocimlagaaGreatSdP
import Derived.Test.YtakgohocimlagaaGreatMay
import Derived.Lib.OwnKind
import Derived.Test.YtakgohocimlagaaGreatEsN
import Derived.Deep.CutBlock
namespace Go.Proofs.YtakgohocimlagaaGreat
open Go.RowKit Go.Lib
set_option linter.unusedVariables false
set_option linter.unusedSimpArgs false

/-! ### rows that are told one by one -/
def RowV {α β : Type} (P : α → β → Prop) (l : List α) (m : List β) : Prop := l.length = m.length ∧ ∀ (i : Nat) (x : α) (y : β), l[i]? = some x → m[i]? = some y → P x y
theorem RowV.nil {α β : Type} (P : α → β → Prop) : RowV P [] [] := ⟨rfl, fun i x y h => by simp at h⟩
theorem RowV.imp {α β : Type} {P Q : α → β → Prop} {l : List α} {m : List β} (h : RowV P l m) (hi : ∀ x y, y ∈ m → P x y → Q x y) : RowV Q l m :=
  ⟨h.1, fun i x y hx hy => hi x y (List.mem_of_getElem? hy) (h.2 i x y hx hy)⟩
theorem RowV.append {α β : Type} {P : α → β → Prop} {l l' : List α} {m m' : List β} (h : RowV P l m) (h' : RowV P l' m') : RowV P (l ++ l') (m ++ m') := by
  refine ⟨by simp [h.1, h'.1], fun i y q hy hq => ?_⟩
  by_cases hi : i < l.length
  · rw [List.getElem?_append_left hi] at hy
    rw [List.getElem?_append_left (by rw [← h.1]; exact hi)] at hq
    exact h.2 i y q hy hq
  · rw [List.getElem?_append_right (by omega)] at hy
    rw [List.getElem?_append_right (by rw [← h.1]; omega), ← h.1] at hq
    exact h'.2 _ y q hy hq
theorem RowV.one {α β : Type} {P : α → β → Prop} {x : α} {y : β} (h : P x y) : RowV P [x] [y] :=
  ⟨rfl, fun i a b ha hb => by
    have hi : i = 0 := by have := (List.getElem?_eq_some_iff.1 ha).1; simp at this; exact this
    subst hi
    simp at ha hb
    subst ha hb
    exact h⟩

/-! ### bytes, options, kept where other blocks are changed -/
/-- bytes that lie in none of the blocks N -/
def DatV (w : World) (N : List Nat) (A : Option Addr) (n c : Nat) (l : List UInt8) : Prop := BytesV w (.slice A n c) l ∧ (0 < n → ∀ a, A = some a → a.block < w.heap.size ∧ a.block ∉ N)
theorem BytesV.keepN {w w' : World} {v : Value} {l : List UInt8} {S : List Nat} (h : BytesV w v l) (k : Keeps S w w') (hS : ∀ b ∈ S, NoU8 w b) : BytesV w' v l := by
  obtain ⟨A, c, rfl, h1, h2, h3⟩ := h
  refine ⟨A, c, rfl, h1, h2, fun hp => ?_⟩
  obtain ⟨g, o, rfl, hc⟩ := h3 hp
  refine ⟨g, o, rfl, fun i x hx => cell_keeps k (hc i x hx) (fun hm => ?_)⟩
  have := hc i x hx
  unfold u8V at this
  exact hS g hm _ _ this
theorem OptsV.keepN {w w' : World} {v : Value} {os : List O} {S : List Nat} (h : OptsV w v os) (k : Keeps S w w') (hS : ∀ b ∈ S, NoU8 w b) : OptsV w' v os := by
  obtain ⟨A, c, rfl, h1, h2, h3⟩ := h
  refine ⟨A, c, rfl, h1, h2, fun hp => ?_⟩
  obtain ⟨g, o, rfl, hc⟩ := h3 hp
  refine ⟨g, o, rfl, fun i x hx => ?_⟩
  obtain ⟨B, m, r1, r2, r3⟩ := hc i x hx
  have hg : g ∉ S := fun hm => by unfold u8V at r1; exact hS g hm _ _ r1
  exact ⟨B, m, cell_keeps k r1 hg, cell_keeps k r2 hg, r3.keepN k hS⟩
theorem DatV.keepN {w w' : World} {N : List Nat} {A : Option Addr} {n c : Nat} {l : List UInt8} {S : List Nat} (h : DatV w N A n c l) (k : Keeps S w w') (hS : ∀ b ∈ S, NoU8 w b ∨ b ∈ N) : DatV w' N A n c l := by
  obtain ⟨h1, h2⟩ := h
  refine ⟨?_, fun hp a ha => ⟨Nat.lt_of_lt_of_le (h2 hp a ha).1 k.size, (h2 hp a ha).2⟩⟩
  obtain ⟨rfl, q1, q2⟩ := h1.form
  refine ⟨A, c, rfl, q1, q2, fun hp => ?_⟩
  obtain ⟨g, o, rfl, hc⟩ := h1.get hp
  refine ⟨g, o, rfl, fun i x hx => cell_keeps k (hc i x hx) (fun hm => ?_)⟩
  have h3 := hc i x hx
  unfold u8V at h3
  rcases hS g hm with h4 | h4
  · exact h4 _ _ h3
  · exact (h2 hp _ rfl).2 h4
theorem DatV.no {w : World} {N N' : List Nat} {A : Option Addr} {n c : Nat} {l : List UInt8} (h : DatV w N A n c l) (hN : ∀ b ∈ N', b < w.heap.size → b ∈ N) : DatV w N' A n c l :=
  ⟨h.1, fun hp a ha => ⟨(h.2 hp a ha).1, fun hm => (h.2 hp a ha).2 (hN _ hm (h.2 hp a ha).1)⟩⟩
theorem DatV.nil (w : World) (N : List Nat) : DatV w N none 0 0 [] := ⟨BytesV.nil w, fun h => by simp at h⟩

/-! ### what is sent, what is answered -/
/-- what an end sends -/
inductive It where
  | syn
  | sk (k : SK)
/-- a segment as it lies is what an end with the stream D sends -/
def ItV (D : List UInt8) (iss irs : Int) (w : World) (N : List Nat) (g : GS) : It → Prop
  | .syn => g.sp = 1 ∧ g.dp = 2 ∧ g.sq = iss ∧ g.ak = 0 ∧ g.fl = 2 ∧ g.wn = 0 ∧ g.ug = 0 ∧ OptsV w (.slice g.oA g.oN g.oC) synO ∧ g.dA = none ∧ g.dN = 0 ∧ g.dC = 0
  | .sk .ack => g.sp = 1 ∧ g.dp = 2 ∧ g.sq = addI iss 1 ∧ g.ak = addI irs 1 ∧ g.fl = 16 ∧ g.wn = 0 ∧ g.ug = 0 ∧ g.oA = none ∧ g.oN = 0 ∧ g.oC = 0 ∧ g.dA = none ∧ g.dN = 0 ∧ g.dC = 0
  | .sk (.pc a l) => g.sp = 1 ∧ g.dp = 2 ∧ g.sq = (iss + 1 + a) % 4294967296 ∧ g.ak = addI irs 1 ∧ g.fl = 24 ∧ g.wn = 0 ∧ g.ug = 0 ∧ g.oA = none ∧ g.oN = 0 ∧ g.oC = 0 ∧ g.dN = l ∧ DatV w N g.dA g.dN g.dC ((D.drop a).take l)
/-- what the peer answers: a SYN-ACK, or an ACK of so much -/
inductive An where
  | syn
  | ok (g : Nat)
def AnV (iss irs win mss : Int) (w : World) (g : GS) : An → Prop
  | .syn => g.sp = 2 ∧ g.dp = 1 ∧ g.sq = irs ∧ g.ak = addI iss 1 ∧ g.fl = 18 ∧ g.wn = win ∧ g.ug = 0 ∧ OptsV w (.slice g.oA g.oN g.oC) [(2, put16 mss)] ∧ g.dA = none ∧ g.dN = 0 ∧ g.dC = 0
  | .ok n => g.sp = 2 ∧ g.dp = 1 ∧ g.sq = addI irs 1 ∧ g.ak = (iss + 1 + n) % 4294967296 ∧ g.fl = 16 ∧ g.wn = win ∧ g.ug = 0 ∧ g.oA = none ∧ g.oN = 0 ∧ g.oC = 0 ∧ g.dA = none ∧ g.dN = 0 ∧ g.dC = 0
theorem ItV.keepN {D : List UInt8} {iss irs : Int} {w w' : World} {N : List Nat} {g : GS} {it : It} {S : List Nat} (h : ItV D iss irs w N g it) (k : Keeps S w w') (hS : ∀ b ∈ S, NoU8 w b ∨ (b ∈ N ∧ it ≠ .syn)) : ItV D iss irs w' N g it := by
  match it, h with
  | .syn, ⟨h1, h2, h3, h4, h5, h6, h7, h8, h9⟩ =>
    exact ⟨h1, h2, h3, h4, h5, h6, h7, h8.keepN k (fun b hb => (hS b hb).elim id (fun h => absurd rfl h.2)), h9⟩
  | .sk .ack, h => exact h
  | .sk (.pc a l), ⟨h1, h2, h3, h4, h5, h6, h7, h8, h9, h10, h11, h12⟩ =>
    exact ⟨h1, h2, h3, h4, h5, h6, h7, h8, h9, h10, h11, h12.keepN k (fun b hb => (hS b hb).imp id And.left)⟩
theorem ItV.no {D : List UInt8} {iss irs : Int} {w : World} {N N' : List Nat} {g : GS} {it : It} (h : ItV D iss irs w N g it) (hN : ∀ b ∈ N', b < w.heap.size → b ∈ N) : ItV D iss irs w N' g it := by
  match it, h with
  | .syn, h => exact h
  | .sk .ack, h => exact h
  | .sk (.pc a l), ⟨h1, h2, h3, h4, h5, h6, h7, h8, h9, h10, h11, h12⟩ =>
    exact ⟨h1, h2, h3, h4, h5, h6, h7, h8, h9, h10, h11, h12.no hN⟩
theorem AnV.keepN {iss irs win mss : Int} {w w' : World} {g : GS} {an : An} {S : List Nat} (h : AnV iss irs win mss w g an) (k : Keeps S w w') (hS : ∀ b ∈ S, NoU8 w b ∨ an ≠ .syn) : AnV iss irs win mss w' g an := by
  match an, h with
  | .syn, ⟨h1, h2, h3, h4, h5, h6, h7, h8, h9⟩ =>
    exact ⟨h1, h2, h3, h4, h5, h6, h7, h8.keepN k (fun b hb => (hS b hb).elim id (fun h => absurd rfl h)), h9⟩
  | .ok n, h => exact h

/-! ### the pieces that are sent, plainly and as they lie -/
theorem cuts_row {una : Int} {A : Nat} {iss : Int} {D L : List UInt8} {M : Nat} (hM : 1 ≤ M) (hu : una = (iss + 1 + A) % 4294967296) (hL : L = D.drop A) : ∀ {k k' f e : Nat}, e ≤ L.length → e - f ≤ k → e - f ≤ k' →
    RowV (fun (p : Int × List UInt8) (o : SK) => ∃ a l, o = .pc a l ∧ p.1 = (iss + 1 + a) % 4294967296 ∧ p.2 = (D.drop a).take l ∧ p.2.length = l) (cutsR k una L M f e) (cutsK k' M (A + f) (A + e))
  | k, k', f, e, he, hk, hk' => by
    by_cases hfe : f < e
    · obtain ⟨k, rfl⟩ : ∃ j, k = j + 1 := ⟨k - 1, by omega⟩
      obtain ⟨k', rfl⟩ : ∃ j, k' = j + 1 := ⟨k' - 1, by omega⟩
      unfold cutsR cutsK
      rw [if_pos hfe, if_pos (by omega)]
      have ih := cuts_row (k := k) (k' := k') (f := min (f + M) e) (e := e) hM hu hL he (by omega) (by omega)
      have e1 : min (A + f + M) (A + e) = A + min (f + M) e := by omega
      rw [e1]
      have e2 : A + min (f + M) e - (A + f) = min (f + M) e - f := by omega
      rw [e2]
      refine RowV.append (l := [_]) (m := [_]) (RowV.one ⟨A + f, _, rfl, ?_, ?_, ?_⟩) ih
      · unfold addI; rw [hu]; simp only [Int.natCast_add]; omega
      · simp only; rw [hL, List.drop_drop]
      · simp only [List.length_take, List.length_drop]; omega
    · rw [cutsR_end hfe]
      have : cutsK k' M (A + f) (A + e) = [] := by
        cases k' with
        | zero => rfl
        | succ j => unfold cutsK; rw [if_neg (by omega)]
      rw [this]
      exact RowV.nil _
/-- pieces as they lie, as segments that are told -/
theorem its_of_pcs {D : List UInt8} {iss irs : Int} {s : ES} {w : World} {base : Nat} {own : Option Nat} {l : List PC} {ps : List (Int × List UInt8)} {ks : List SK} {N : List Nat} (hl : s.loc = 1) (hr : s.rem = 2) (hi : s.irs = irs) (h : PcsV base w own l ps)
    (hc : RowV (fun (p : Int × List UInt8) (o : SK) => ∃ a l, o = .pc a l ∧ p.1 = (iss + 1 + a) % 4294967296 ∧ p.2 = (D.drop a).take l ∧ p.2.length = l) ps ks) (hN : ∀ b ∈ N, b < base ∨ own = some b) : RowV (ItV D iss irs w N) (l.map (toGS s)) (ks.map It.sk) := by
  refine ⟨by rw [List.length_map, List.length_map, h.1, hc.1], fun i x y hx hy => ?_⟩
  rw [List.getElem?_map] at hx hy
  obtain ⟨pc, hpc, rfl⟩ := Option.map_eq_some_iff.1 hx
  obtain ⟨k, hk, rfl⟩ := Option.map_eq_some_iff.1 hy
  have hi2 : i < ps.length := by rw [← h.1]; exact (List.getElem?_eq_some_iff.1 hpc).1
  obtain ⟨h1, h2, h3, h4, h5⟩ := h.2 i pc _ hpc (List.getElem?_eq_getElem hi2)
  obtain ⟨a, n, rfl, c1, c2, c3⟩ := hc.2 i _ k (List.getElem?_eq_getElem hi2) hk
  refine ⟨hl, hr, by rw [← c1]; exact h1, by unfold toGS addI; rw [hi], rfl, rfl, rfl, rfl, rfl, rfl, by rw [← c3]; exact h2, ?_, ?_⟩
  · rw [← c2]; exact h4
  · intro hp ad had
    refine ⟨?_, fun hm => ?_⟩
    · obtain ⟨g, o, e, hcc⟩ := h4.get hp
      have e' : pc.A = some ad := had
      rw [e'] at e
      cases e
      exact lt_of_cell (hcc 0 _ (List.getElem?_eq_getElem (by omega)))
    · rcases hN _ hm with h6 | h6
      · have := (h5 ad had).1; omega
      · exact (h5 ad had).2 h6
end Go.Proofs.YtakgohocimlagaaGreat

namespace Go.Proofs.YtakgohocimlagaaGreat
open Go.RowKit Go.Lib
set_option linter.unusedVariables false
set_option linter.unusedSimpArgs false

/-- a buffer is the plain state s, over the stream D -/
structure XInv (D : List UInt8) (iss : Int) (win : Nat) (P : Nat → Prop) (s : SE) (X : RX) : Prop where
  ok : X.Ok
  AN : s.A ≤ s.N
  NT : s.N ≤ D.length
  T : D.length ≤ 400
  data : X.data = D.drop s.A
  una : X.una = (iss + 1 + s.A) % 4294967296
  sent : X.sent = ((s.N - s.A : Nat) : Int)
  win : X.win = win
  rto : X.rto = 4
  tries : X.tries = 10
  wait : X.wait = s.wait
  cnt : X.cnt = s.cnt
  alarm : X.alarm = s.alarm
  low : X.inP P
theorem XInv.len {D : List UInt8} {iss : Int} {win : Nat} {P : Nat → Prop} {s : SE} {X : RX} (h : XInv D iss win P s X) : X.data.length = D.length - s.A := by rw [h.data, List.length_drop]
theorem XInv.sendE {D : List UInt8} {iss : Int} {win : Nat} {P : Nat → Prop} {s : SE} {X : RX} (h : XInv D iss win P s X) : X.sendE = min (D.length - s.A) win := by
  unfold RX.sendE
  rw [h.len, h.win]
  omega
theorem XInv.cuts {D : List UInt8} {iss : Int} {win : Nat} {P : Nat → Prop} {s : SE} {X : RX} (h : XInv D iss win P s X) {M : Nat} (hM : 1 ≤ M) :
    RowV (fun (p : Int × List UInt8) (o : SK) => ∃ a l, o = .pc a l ∧ p.1 = (iss + 1 + a) % 4294967296 ∧ p.2 = (D.drop a).take l ∧ p.2.length = l) (cutsR X.sendE X.una X.data M X.sent.toNat X.sendE) (cutsK D.length M s.N (min D.length (s.A + win))) := by
  have e := h.sendE
  have h1 := h.AN
  have h2 := h.NT
  have := cuts_row (M := M) (k := X.sendE) (k' := D.length) (f := X.sent.toNat) (e := X.sendE) hM h.una h.data (by rw [h.len, e]; omega) (by omega) (by rw [e]; omega)
  have e1 : s.A + X.sent.toNat = s.N := by rw [h.sent]; omega
  have e2 : s.A + X.sendE = min D.length (s.A + win) := by rw [e]; omega
  rw [e1, e2] at this
  exact this
theorem XInv.sent' {D : List UInt8} {iss : Int} {win : Nat} {P : Nat → Prop} {s : SE} {X : RX} (h : XInv D iss win P s X) : XInv D iss win P { s with N := s.upto D.length win } { X with sent := max X.sent X.sendE } := by
  have e := h.sendE
  have h1 := h.AN
  have h2 := h.NT
  have h3 := h.sent
  have h4 := h.len
  refine ⟨⟨h.ok.una, h.ok.len, ?_, h.ok.win, h.ok.rto, h.ok.tries, h.ok.cnt⟩, ?_, ?_, h.T, h.data, h.una, ?_, h.win, h.rto, h.tries, h.wait, h.cnt, h.alarm, h.low⟩
  · simp only; omega
  · simp only [SE.upto]; omega
  · simp only [SE.upto]; omega
  · simp only [SE.upto]; omega
theorem XInv.sentN {D : List UInt8} {iss : Int} {win : Nat} {P : Nat → Prop} {s : SE} {X : RX} (h : XInv D iss win P s X) {N0 A0 : Nat} (eN : s.N = N0) (eA : s.A = A0) : XInv D iss win P { s with N := max N0 (min D.length (A0 + win)) } { X with sent := max X.sent X.sendE } := by subst eN eA; exact h.sent'
theorem XInv.acked {D : List UInt8} {iss : Int} {win : Nat} {P : Nat → Prop} {s : SE} {X : RX} (h : XInv D iss win P s X) (hw : win ≤ 500) {g : Nat} (g1 : s.A ≤ g) (g2 : g ≤ s.N) (A : Option Addr) (c now : Nat) (hl : ∀ P, X.inP P → (X.acked ((iss + 1 + g) % 4294967296) win (g - s.A) A c now).inP P) :
    XInv D iss win P (s.ackd 4 now g) (X.acked ((iss + 1 + g) % 4294967296) win (g - s.A) A c now) := by
  have hok := acked_Ok h.ok (ak := (iss + 1 + g) % 4294967296) (wn := (win : Int)) (n := g - s.A) (by constructor <;> omega) (by omega) (by rw [h.sent]; omega) A c now
  have hlo := hl P h.low
  have h1 := h.AN
  have h2 := h.NT
  by_cases hz : s.A < g
  · have e1 : s.ackd 4 now g = ⟨g, s.N, 0, 4, now + 4⟩ := by unfold SE.ackd; rw [if_pos hz]
    have e2 : X.acked ((iss + 1 + g) % 4294967296) win (g - s.A) A c now = RX.anew { X with win := win, una := (iss + 1 + g) % 4294967296, sent := X.sent - ((g - s.A : Nat) : Int), dataA := A, data := X.data.drop (g - s.A), dataC := c } now := by unfold RX.acked; rw [if_neg (by omega)]
    rw [e2] at hok hlo ⊢
    rw [e1]
    refine ⟨hok, g2, h2, h.T, ?_, rfl, ?_, rfl, h.rto, h.tries, h.rto, rfl, ?_, hlo⟩
    · simp only [RX.anew]; rw [h.data, List.drop_drop]; congr 1; omega
    · simp only [RX.anew]; rw [h.sent]; omega
    · simp only [RX.anew]; rw [h.rto]; omega
  · have e0 : g = s.A := by omega
    have e1 : s.ackd 4 now g = s := by unfold SE.ackd; rw [if_neg hz]
    have e2 : X.acked ((iss + 1 + g) % 4294967296) win (g - s.A) A c now = { X with win := win } := by unfold RX.acked; rw [if_pos (by omega)]
    rw [e2] at hok hlo ⊢
    rw [e1]
    exact ⟨hok, h1, h2, h.T, h.data, h.una, h.sent, rfl, h.rto, h.tries, h.wait, h.cnt, h.alarm, hlo⟩
theorem XInv.ticked {D : List UInt8} {iss : Int} {win : Nat} {P : Nat → Prop} {s : SE} {X : RX} (h : XInv D iss win P s X) {M : Nat} (hA : s.A < D.length) (hc : s.cnt < 10) : XInv D iss win P (s.ticked D.length win M) (X.ticked M s.alarm) ∧ (X.tickN M).toNat = s.tickN D.length win M := by
  have hl := h.len
  have hok := ticked_Ok h.ok M s.alarm (by rw [h.cnt, h.tries]; omega) (by omega)
  have h1 := h.AN
  have h2 := h.NT
  have h3 := h.sent
  have h4 := h.win
  have ht : X.tickN M = ((s.tickN D.length win M : Nat) : Int) := by unfold RX.tickN SE.tickN; rw [hl, h4]; omega
  obtain ⟨t1, t2, _⟩ := tickN_bd (s := s) (win := win) (mss := M) hA
  refine ⟨⟨hok, ?_, ?_, h.T, h.data, h.una, ?_, h.win, h.rto, h.tries, ?_, ?_, ?_, h.low⟩, by omega⟩
  · simp only [SE.ticked]; omega
  · simp only [SE.ticked]; omega
  · simp only [SE.ticked, RX.ticked]; omega
  · simp only [SE.ticked, RX.ticked]; rw [h.wait]; omega
  · simp only [SE.ticked, RX.ticked]; rw [h.cnt]; omega
  · simp only [SE.ticked, RX.ticked]; rw [h.wait]; omega
/-- more is written -/
def SE.wrote (s : SE) (T l now : Nat) : SE := if T = s.A ∧ 0 < l then ⟨s.A, s.N, 0, 4, now + 4⟩ else s
theorem XInv.wrote {D E : List UInt8} {iss : Int} {win : Nat} {P : Nat → Prop} {s : SE} {X : RX} (h : XInv D iss win P s X) (hT : (D ++ E).length ≤ 400) (A : Option Addr) (c now : Nat) (P' : Nat → Prop) (hl : (X.wrote A E c now).inP P') : XInv (D ++ E) iss win P' (s.wrote D.length E.length now) (X.wrote A E c now) := by
  have h1 := h.AN
  have h2 := h.NT
  have h4 := h.len
  have h5 := h.T
  rw [List.length_append] at hT
  have hok := wrote_Ok h.ok A E c now (by rw [h4]; omega)
  have hd : X.data ++ E = (D ++ E).drop s.A := by rw [List.drop_append_of_le_length (by omega), h.data]
  by_cases hz : D.length = s.A ∧ 0 < E.length
  · have e1 : s.wrote D.length E.length now = ⟨s.A, s.N, 0, 4, now + 4⟩ := by unfold SE.wrote; rw [if_pos hz]
    have e2 : X.wrote A E c now = RX.anew { X with dataA := A, data := X.data ++ E, dataC := c } now := by unfold RX.wrote; rw [if_pos (by omega)]
    rw [e2] at hok hl ⊢
    rw [e1]
    exact ⟨hok, h1, by rw [List.length_append]; simp only; omega, by rw [List.length_append]; omega, hd, h.una, h.sent, h.win, h.rto, h.tries, h.rto, rfl, by simp only [RX.anew]; rw [h.rto]; omega, hl⟩
  · have e1 : s.wrote D.length E.length now = s := by unfold SE.wrote; rw [if_neg hz]
    have e2 : X.wrote A E c now = { X with dataA := A, data := X.data ++ E, dataC := c } := by unfold RX.wrote; rw [if_neg (by omega)]
    rw [e2] at hok hl ⊢
    rw [e1]
    exact ⟨hok, h1, by rw [List.length_append]; omega, by rw [List.length_append]; omega, hd, h.una, h.sent, h.win, h.rto, h.tries, h.wait, h.cnt, h.alarm, hl⟩
/-- the end at block x, its buffer at r, is the plain state s -/
def OnV (D : List UInt8) (iss irs : Int) (M win : Nat) (P : Nat → Prop) (w : World) (x r : Nat) (s : SE) : Prop :=
  x ≠ r ∧ ∃ sk A n c al wt ct X, EndAt w x (onE iss irs M win r sk (.slice A n c) al wt ct) ∧ RxAt w r X ∧ XInv D iss win P s X
theorem aheadI_near {iss : Int} {a g : Nat} (h : a ≤ g) (hg : g ≤ 100000) : aheadI ((iss + 1 + a) % 4294967296) ((iss + 1 + g) % 4294967296) = ((g - a : Nat) : Int) := by
  unfold aheadI
  rw [Int.sub_emod, Int.emod_emod, Int.emod_emod, ← Int.sub_emod]
  have : (iss + 1 + (g : Int) - (iss + 1 + a)) = ((g - a : Nat) : Int) := by omega
  rw [this]
  rw [Int.emod_eq_of_lt (by omega) (by omega)]
  rw [if_pos (by omega)]
theorem aheadI_back {iss : Int} {a g : Nat} (h : a ≤ g) (hg : g ≤ 100000) : lessI ((iss + 1 + g) % 4294967296) ((iss + 1 + a) % 4294967296) = false := by
  unfold lessI aheadI
  rw [Int.sub_emod, Int.emod_emod, Int.emod_emod, ← Int.sub_emod]
  have : (iss + 1 + (a : Int) - (iss + 1 + g)) = -((g - a : Nat) : Int) := by omega
  rw [this]
  apply decide_eq_false
  rcases Nat.eq_or_lt_of_le h with e | e
  · subst e; simp
  · have : (-((g - a : Nat) : Int)) % 4294967296 = 4294967296 - ((g - a : Nat) : Int) := by omega
    rw [this]
    rw [if_neg (by omega)]
    omega
theorem take_on {D : List UInt8} {iss irs : Int} {M win : Nat} {P : Nat → Prop} {w : World} {x r : Nat} {s : SE} (h : OnV D iss irs M win P w x r s) (m0 : 1 ≤ M) (m1 : M ≤ 1460) (w0 : 1 ≤ win) (w1 : win ≤ 500) (hirs : U32 irs) (g : Nat) (g1 : s.A ≤ g) (g2 : g ≤ s.N) (now : Nat) (n1 : now ≤ 4398046511104) :
    Calls Tryz.prog 12 #[.pointer (some ⟨x, 0, none⟩), .agg #[.int .u16 2, .int .u16 1, .int .u32 (addI irs 1), .int .u32 ((iss + 1 + g) % 4294967296), .int .u8 16, .int .u16 win, .int .u16 0, .slice none 0 0, .slice none 0 0], .int .u64 now] w fun e w' => ∃ v l, e = .returned (.tuple #[v, .int .i64 0]) ∧ gsK.Own w' w.heap.size 39 v l ∧ (∀ N : List Nat, (∀ b ∈ N, b < w.heap.size) → RowV (ItV D iss irs w' N) l ((s.sends D.length win M 4 now g).map It.sk)) ∧ OnV D iss irs M win P w' x r (s.took D.length win 4 now g) ∧ Keeps [x, r] w w' := by
  obtain ⟨hxr, sk, A, n, c, al, wt, ct, X, hE, hX, hI⟩ := h
  have h1 := hI.AN
  have h2 := hI.NT
  have h3 := hI.T
  have hs := hI.sent
  have hu := hI.una
  have e1 : addI X.una X.sent = (iss + 1 + s.N) % 4294967296 := by unfold addI; rw [hu, hs]; omega
  refine (etake_open hE rfl rfl rfl hX hI.ok M rfl m0 m1 hxr rfl hirs ⟨_, _, _, rfl⟩ ⟨_, _, _, rfl⟩ 2 1 ((iss + 1 + g) % 4294967296) win (by omega) (by constructor <;> omega) (g - s.A) (by rw [hu]; exact aheadI_near g1 (by omega)) (by rw [hs]; omega) (by rw [e1]; exact aheadI_back g2 (by omega)) (by rw [hu]; exact aheadI_back g1 (by omega)) now (by omega) (by omega)).mono ?_
  rintro e w' ⟨v, l, A', c', rfl, own, pcs, rx, en, sb, k⟩
  have hI1 := hI.acked w1 g1 g2 A' c' now sb
  have hI2 := hI1.sent'
  refine ⟨v, _, rfl, own_gs own, fun N hN => ?_, ⟨hxr, sk, A, n, c, al, wt, ct, _, en, rx, hI2⟩, k⟩
  have hc := hI1.cuts m0
  rw [ackd_N] at hc
  exact its_of_pcs rfl rfl rfl pcs hc (fun b hb => .inl (hN b hb))
theorem write_half {D E : List UInt8} {iss irs : Int} {M win : Nat} {P : Nat → Prop} {w : World} {x r : Nat} {s : SE} {sk : Bool} {A : Option Addr} {c : Nat} {al wt ct : Int} {X : RX} (hxr : x ≠ r) (hE : EndAt w x (onE iss irs M win r sk (.slice A D.length c) al wt ct)) (hA : BytesV w (.slice A D.length c) D) (hX : RxAt w r X) (hI : XInv D iss win P s X) (hT : (D ++ E).length ≤ 400) (m0 : 1 ≤ M) (m1 : M ≤ 1460) (w1 : win ≤ 500) (A2 : Option Addr) (c2 : Nat) (hb : BytesV w (.slice A2 E.length c2) E) (now : Nat) (n1 : now ≤ 4398046511104) :
    Calls Tryz.prog 22 #[.pointer (some ⟨x, 0, none⟩), .slice A2 E.length c2, .int .u64 now] w fun e w' => ∃ v l, e = .returned (.tuple #[v, .int .i64 0]) ∧ gsK.Own w' w.heap.size 39 v l ∧ (∀ N : List Nat, (∀ b ∈ N, b < w.heap.size) → RowV (ItV (D ++ E) iss irs w' N) l ((cutsK (D ++ E).length M s.N (min (D ++ E).length (s.A + win))).map It.sk)) ∧ OnV (D ++ E) iss irs M win (fun j => w.heap.size ≤ j ∧ j < w'.heap.size) w' x r { (s.wrote D.length E.length now) with N := max s.N (min (D ++ E).length (s.A + win)) } ∧ Keeps [x, r] w w' := by
  have hTT := hT
  rw [List.length_append] at hT
  have h4 := hI.len
  refine (ewrite_open hE rfl rfl rfl ⟨_, _, _, rfl⟩ hX hI.ok M rfl m0 m1 hxr A D.length c D rfl hA A2 E.length c2 E hb (by omega) (by rw [h4]; omega) now (by omega) (by omega)).mono ?_
  rintro e w' ⟨v, l, A1, c1, A', c', rfl, own, pcs, rx, en, hb1, hfa, k⟩
  have ea : (X.wrote A' E c' now).dataA = A' := by unfold RX.wrote RX.anew; split <;> rfl
  have hI1 := hI.wrote hTT A' c' now (fun j => w.heap.size ≤ j ∧ j < w'.heap.size) (fun hl a ha => ⟨hfa a (by rw [← ea]; exact ha), rx.inP hl a ha⟩)
  have eA : (s.wrote D.length E.length now).A = s.A := by unfold SE.wrote; split <;> rfl
  have eN : (s.wrote D.length E.length now).N = s.N := by unfold SE.wrote; split <;> rfl
  have hI2 := hI1.sentN eN eA
  have hc := hI1.cuts m0
  rw [eA, eN] at hc
  exact ⟨v, _, rfl, own_gs own, fun N hN => its_of_pcs rfl rfl rfl pcs hc (fun b hb => .inl (hN b hb)), ⟨hxr, sk, A1, _, c1, al, wt, ct, _, en, rx, hI2⟩, k⟩
theorem tick_on {D : List UInt8} {iss irs : Int} {M win : Nat} {P : Nat → Prop} {w : World} {x r : Nat} {s : SE} (h : OnV D iss irs M win P w x r s) (m0 : 1 ≤ M) (m1 : M ≤ 1460) (hA : s.A < D.length) (hc : s.cnt < 10) (n1 : s.alarm ≤ 4398046511104) (hw : s.wait ≤ 2199023255552) :
    Calls Tryz.prog 19 #[.pointer (some ⟨x, 0, none⟩), .int .u64 s.alarm] w fun e w' => ∃ v l, e = .returned (.tuple #[v, .int .i64 0]) ∧ (∃ b, v = .slice (some ⟨b, 0, none⟩) 1 1 ∧ gsK.At w' (some ⟨b, 0, none⟩) l) ∧ l.length = 1 ∧ (∀ N : List Nat, (∀ b ∈ N, b < w.heap.size) → RowV (ItV D iss irs w' N) l [.sk (.pc s.A (s.tickN D.length win M))]) ∧ OnV D iss irs M win P w' x r (s.ticked D.length win M) ∧ Keeps [x, r] w w' := by
  obtain ⟨hxr, sk, A, n, c, al, wt, ct, X, hE, hX, hI⟩ := h
  have h4 := hI.len
  have hal := hI.alarm
  have hwt := hI.wait
  have hcn := hI.cnt
  have htr := hI.tries
  obtain ⟨hI2, ht⟩ := hI.ticked (M := M) hA hc
  refine (etick_open hE rfl rfl rfl hX hI.ok M rfl m0 m1 hxr s.alarm (by omega) (by omega) (by omega) (by omega) (by omega) (by omega) (by omega)).mono ?_
  rintro e w' ⟨g, A', c', rfl, hg, hat, hb, hf, rx, en, k⟩
  rw [ht] at hat hb
  refine ⟨_, [toGS (onE iss irs M win r sk (.slice A n c) al wt ct) ⟨X.una, A', s.tickN D.length win M, c'⟩], rfl, ⟨g, rfl, ?_⟩, rfl, fun N hN => RowV.one ⟨rfl, rfl, hI.una, rfl, rfl, rfl, rfl, rfl, rfl, rfl, rfl, ?_⟩, ⟨hxr, sk, A, n, c, al, wt, ct, _, en, rx, hI2⟩, k.mono (by simp)⟩
  · rcases hat with h0 | ⟨b, o, h1, h2⟩
    · cases h0
    · refine .inr ⟨b, o, h1, fun i y hy j u hu => ?_⟩
      have hi : i = 0 := by have := (List.getElem?_eq_some_iff.1 hy).1; simp at this; exact this
      subst hi
      simp at hy
      subst hy
      exact h2 0 _ rfl j u hu
  · refine ⟨?_, fun hp ad had => ?_⟩
    · rw [← hI.data]; exact hb
    · have e' : A' = some ad := had
      refine ⟨?_, fun hm => ?_⟩
      · obtain ⟨g, o, e, hcc⟩ := hb.get hp
        rw [e'] at e
        cases e
        have hlen := hb.form.1
        have hp' : 0 < s.tickN D.length win M := hp
        exact lt_of_cell (hcc 0 _ (List.getElem?_eq_getElem (by omega)))
      · have := hf ad e'
        have := hN _ hm
        omega
theorem tick_fail {D : List UInt8} {iss irs : Int} {M win : Nat} {P : Nat → Prop} {w : World} {x r : Nat} {s : SE} (h : OnV D iss irs M win P w x r s) (m0 : 1 ≤ M) (m1 : M ≤ 1460) (hA : s.A < D.length) (hc : s.cnt = 10) (n1 : (s.alarm : Int) ≤ 4398046511104) :
    Calls Tryz.prog 19 #[.pointer (some ⟨x, 0, none⟩), .int .u64 s.alarm] w fun e w' => e = .returned (.tuple #[.slice none 0 0, .int .i64 0]) ∧ (∃ S, EndAt w' x S ∧ S.st = 4) ∧ Keeps [x, r] w w' := by
  obtain ⟨hxr, sk, A, n, c, al, wt, ct, X, hE, hX, hI⟩ := h
  have h4 := hI.len
  have hal := hI.alarm
  have hcn := hI.cnt
  have htr := hI.tries
  have hn := hI.ok.cnt
  refine (etick_full hE rfl rfl rfl hX hI.ok M rfl m0 m1 hxr s.alarm (by omega) n1 (by omega) (by omega) (by omega)).mono ?_
  rintro e w' ⟨rfl, en, k⟩
  exact ⟨rfl, ⟨_, en, rfl⟩, k.mono (by simp)⟩
theorem alarm_on {D : List UInt8} {iss irs : Int} {M win : Nat} {P : Nat → Prop} {w : World} {x r : Nat} {s : SE} (h : OnV D iss irs M win P w x r s) (hA : s.A < D.length) :
    Calls Tryz.prog 20 #[.pointer (some ⟨x, 0, none⟩)] w fun e w' => e = .returned (.tuple #[.int .u64 s.alarm, .bool true]) ∧ w = w' := by
  obtain ⟨hxr, sk, A, n, c, al, wt, ct, X, hE, hX, hI⟩ := h
  have h4 := hI.len
  have h5 := hI.rto
  have h6 := hI.alarm
  have := ealarm_open hE rfl rfl rfl hX (by omega) (by omega)
  rw [h6] at this
  exact this
theorem alarm_none {D : List UInt8} {iss irs : Int} {M win : Nat} {P : Nat → Prop} {w : World} {x r : Nat} {s : SE} (h : OnV D iss irs M win P w x r s) (hA : s.A = D.length) :
    Calls Tryz.prog 20 #[.pointer (some ⟨x, 0, none⟩)] w fun e w' => e = .returned (.tuple #[.int .u64 0, .bool false]) ∧ w = w' := by
  obtain ⟨hxr, sk, A, n, c, al, wt, ct, X, hE, hX, hI⟩ := h
  have h4 := hI.len
  have h5 := hI.rto
  exact ealarm_open_none hE rfl rfl rfl hX (by omega) (by omega)
theorem done_on {D : List UInt8} {iss irs : Int} {M win : Nat} {P : Nat → Prop} {w : World} {x r : Nat} {s : SE} (h : OnV D iss irs M win P w x r s) :
    Calls Tryz.prog 23 #[.pointer (some ⟨x, 0, none⟩)] w fun e w' => e = .returned (.bool (decide (s.A = D.length))) ∧ Keeps [] w w' := by
  obtain ⟨hxr, sk, A, n, c, al, wt, ct, X, hE, hX, hI⟩ := h
  have h4 := hI.len
  have h1 := hI.AN
  have h2 := hI.NT
  have h3 := hI.T
  have e : (X.una == addI X.una X.data.length) = decide (s.A = D.length) := by
    unfold addI
    rw [hI.una, h4, Bool.eq_iff_iff, beq_iff_eq, decide_eq_true_iff]
    omega
  have := edone_open hE rfl rfl hX hI.ok
  rw [e] at this
  exact this
/-! ### the end's states, plainly -/
inductive ET where
  | op (cnt wait al : Nat)
  | half (s : SE)
  | on (s : SE)
/-- which answers may come -/
def OkB : ET → An → Prop
  | .op _ _ _, .syn => True
  | .on s, .ok n => s.A ≤ n ∧ n ≤ s.N
  | _, _ => False
/-- just opened, the first part written -/
def s0N (h win now : Nat) : SE := { (SE.wrote ⟨0, 0, 0, 4, 0⟩ 0 h now) with N := min h win }
def nextE (h T win now : Nat) : ET → An → ET
  | .op _ _ _, .syn => .half (s0N h win now)
  | .on s, .ok n => .on (s.took T win 4 now n)
  | e, _ => e
def outE (h T win M now : Nat) : ET → An → List It
  | .op _ _ _, .syn => .sk .ack :: (cutsK h M 0 (min h win)).map It.sk
  | .on s, .ok n => (s.sends T win M 4 now n).map It.sk
  | _, _ => []
end Go.Proofs.YtakgohocimlagaaGreat

namespace Go.Proofs.YtakgohocimlagaaGreat
set_option linter.unusedVariables false
set_option linter.unusedSimpArgs false

/-- the peer's turn: its answers, whether it is open, what it has got, how many segments there were, how many are lost -/
def phI (ls : List Bool) : Bool → Nat → Nat → Nat → List It → List An × Bool × Nat × Nat × Nat
  | op, G, m, g, [] => ([], op, G, m, g)
  | op, G, m, g, o :: r => if lostB ls m = true then phI ls op G (m + 1) (g + 1) r else match o with
    | .syn => (.syn :: (phI ls true G (m + 1) g r).1, (phI ls true G (m + 1) g r).2)
    | .sk .ack => phI ls op G (m + 1) g r
    | .sk (.pc a l) => (.ok (if op = true then gotS G a l else G) :: (phI ls op (if op = true then gotS G a l else G) (m + 1) g r).1, (phI ls op (if op = true then gotS G a l else G) (m + 1) g r).2)
theorem phI_on (ls : List Bool) : ∀ (out : List SK) (G m g : Nat), phI ls true G m g (out.map It.sk) = ((ph1 ls G m g out).1.map An.ok, true, (ph1 ls G m g out).2)
  | [], G, m, g => rfl
  | o :: r, G, m, g => by
    rw [List.map_cons]
    unfold phI ph1
    split
    · exact phI_on ls r G (m + 1) (g + 1)
    · cases o with
      | ack => exact phI_on ls r G (m + 1) g
      | pc a l => simp only [if_true]; rw [phI_on ls r (gotS G a l) (m + 1) g]; rfl
theorem phI_syn (ls : List Bool) (op : Bool) (m g : Nat) : phI ls op 0 m g [.syn] = if lostB ls m = true then ([], op, 0, m + 1, g + 1) else ([.syn], true, 0, m + 1, g) := by
  unfold phI
  split <;> rfl
/-- the end's turn -/
def phE (ls : List Bool) (h T win M now : Nat) : ET → Nat → Nat → List An → List It × ET × Nat × Nat
  | e, m, g, [] => ([], e, m, g)
  | e, m, g, b :: r => if lostB ls m = true then phE ls h T win M now e (m + 1) (g + 1) r else
    (outE h T win M now e b ++ (phE ls h T win M now (nextE h T win now e b) (m + 1) g r).1, (phE ls h T win M now (nextE h T win now e b) (m + 1) g r).2)
theorem phE_on (ls : List Bool) (h T win M now : Nat) : ∀ (back : List Nat) (s : SE) (m g : Nat), phE ls h T win M now (.on s) m g (back.map An.ok) = ((ph2 ls T win M 4 now s m g back).1.map It.sk, .on (ph2 ls T win M 4 now s m g back).2.1, (ph2 ls T win M 4 now s m g back).2.2)
  | [], s, m, g => rfl
  | b :: r, s, m, g => by
    rw [List.map_cons]
    unfold phE ph2
    split
    · exact phE_on ls h T win M now r s (m + 1) (g + 1)
    · simp only [nextE, outE]
      rw [phE_on ls h T win M now r (s.took T win 4 now b) (m + 1) g]
      simp
/-- all that comes may come -/
def OkL : ET → List An → Prop
  | .op _ _ _, l => l = [] ∨ l = [.syn]
  | .half _, l => l = []
  | .on s, l => ∃ ns : List Nat, l = ns.map An.ok ∧ ns.Pairwise (· ≤ ·) ∧ ∀ n ∈ ns, s.A ≤ n ∧ n ≤ s.N
theorem OkL.head {e : ET} {b : An} {r : List An} (h : OkL e (b :: r)) : OkB e b := by
  match e, h with
  | .op _ _ _, h =>
    rcases h with h | h
    · cases h
    · cases h; trivial
  | .half _, h => cases h
  | .on s, ⟨ns, h1, h2, h3⟩ =>
    cases ns with
    | nil => cases h1
    | cons n ns =>
      cases h1
      exact h3 n (List.mem_cons_self ..)
theorem OkL.lost {e : ET} {b : An} {r : List An} (h : OkL e (b :: r)) : OkL e r := by
  match e, h with
  | .op _ _ _, h =>
    rcases h with h | h
    · cases h
    · cases h; exact .inl rfl
  | .half _, h => cases h
  | .on s, ⟨ns, h1, h2, h3⟩ =>
    cases ns with
    | nil => cases h1
    | cons n ns =>
      cases h1
      exact ⟨ns, rfl, (List.pairwise_cons.1 h2).2, fun k hk => h3 k (List.mem_cons_of_mem _ hk)⟩
theorem OkL.next {e : ET} {b : An} {r : List An} (hh T win now : Nat) (h : OkL e (b :: r)) : OkL (nextE hh T win now e b) r := by
  match e, h with
  | .op _ _ _, h =>
    rcases h with h | h
    · cases h
    · cases h; exact rfl
  | .half _, h => cases h
  | .on s, ⟨ns, h1, h2, h3⟩ =>
    cases ns with
    | nil => cases h1
    | cons n ns =>
      cases h1
      refine ⟨ns, rfl, (List.pairwise_cons.1 h2).2, fun k hk => ?_⟩
      have h4 := (List.pairwise_cons.1 h2).1 k hk
      have h5 := h3 k (List.mem_cons_of_mem _ hk)
      have h6 := h3 n (List.mem_cons_self ..)
      have tA := took_A s T win 4 now n
      have tN := took_N s T win 4 now n
      omega
theorem ph1_sorted (ls : List Bool) (N : Nat) : ∀ (out : List SK) (G m g : Nat), G ≤ N → (∀ a l, SK.pc a l ∈ out → a + l ≤ N) → (ph1 ls G m g out).1.Pairwise (· ≤ ·)
  | [], G, m, g, h, ho => List.Pairwise.nil
  | o :: r, G, m, g, h, ho => by
    have hr : ∀ a l, SK.pc a l ∈ r → a + l ≤ N := fun a l hm => ho a l (List.mem_cons_of_mem _ hm)
    unfold ph1
    split
    · exact ph1_sorted ls N r G (m + 1) (g + 1) h hr
    · cases o with
      | ack => exact ph1_sorted ls N r G (m + 1) g h hr
      | pc a l =>
        have hN := gotS_max h (ho a l (List.mem_cons_self ..))
        obtain ⟨h1, h2, h3, h4, h5⟩ := ph1_facts ls N r (gotS G a l) (m + 1) g hN hr
        exact List.pairwise_cons.2 ⟨fun x hx => (h5 x hx).1, ph1_sorted ls N r (gotS G a l) (m + 1) g hN hr⟩

/-! ### alarms -/
structure AlInv (now : Nat) (s : SE) : Prop where
  c : s.cnt ≤ 10
  w : s.wait = 4 * 2 ^ s.cnt
  a : now ≤ s.alarm
  b : s.alarm ≤ now + s.wait
theorem pow_small {c : Nat} (h : c ≤ 10) : 4 * 2 ^ c ≤ 4096 := by
  have : 2 ^ c ≤ 2 ^ 10 := Nat.pow_le_pow_right (by omega) h
  omega
theorem AlInv.took {now : Nat} {s : SE} (h : AlInv now s) (T win g : Nat) : AlInv now (s.took T win 4 now g) := by
  unfold SE.took SE.ackd
  by_cases hz : s.A < g
  · rw [if_pos hz]
    exact ⟨by simp, by simp, by simp, by simp⟩
  · rw [if_neg hz]
    exact ⟨h.c, h.w, h.a, h.b⟩
theorem AlInv.ticked {now : Nat} {s : SE} (h : AlInv now s) (hc : s.cnt < 10) (T win M : Nat) : AlInv s.alarm (s.ticked T win M) := by
  have := h.w
  refine ⟨by simp only [SE.ticked]; omega, by simp only [SE.ticked]; rw [h.w, Nat.pow_succ]; omega, by simp only [SE.ticked]; omega, by simp only [SE.ticked]; omega⟩
theorem ph2_time (ls : List Bool) (T win M now : Nat) : ∀ (back : List Nat) (s : SE) (m g : Nat), AlInv now s → AlInv now (ph2 ls T win M 4 now s m g back).2.1
  | [], s, m, g, h => h
  | b :: r, s, m, g, h => by
    unfold ph2
    split
    · exact ph2_time ls T win M now r s (m + 1) (g + 1) h
    · exact ph2_time ls T win M now r (s.took T win 4 now b) (m + 1) g (h.took T win b)
/-! ### what is known at the head of a step -/
/-- open, all is written -/
structure BInv (ls : List Bool) (T win M k now m g G : Nat) (s : SE) (out : List SK) : Prop where
  i : SInv T win s G g out
  t : AlInv now s
  lt : s.A < T
  ne : out ≠ []
  pot : k ≤ 60 ∨ k + muS T s out ≤ 863
/-- where all is written at last -/
theorem BInv.start {ls : List Bool} {h T win M k now m g : Nat} (hm : 1 ≤ M) (hw : 1 ≤ win) (hh : h ≤ T) (hT : 0 < T) (hT4 : T ≤ 400) (hk : k ≤ 61) :
    BInv ls T win M k now m g 0 { ((s0N h win now).wrote h (T - h) now) with N := max (s0N h win now).N (min T ((s0N h win now).A + win)) } (.ack :: (cutsK h M 0 (min h win) ++ cutsK T M (s0N h win now).N (min T ((s0N h win now).A + win)))) := by
  have eA : (s0N h win now).A = 0 := by unfold s0N SE.wrote; split <;> rfl
  have eN : (s0N h win now).N = min h win := rfl
  have fA : ((s0N h win now).wrote h (T - h) now).A = 0 := by rw [← eA]; unfold SE.wrote; split <;> rfl
  have fc : ((s0N h win now).wrote h (T - h) now).cnt = 0 := by
    unfold SE.wrote
    split
    · rfl
    · unfold s0N SE.wrote; split <;> rfl
  have fw : ((s0N h win now).wrote h (T - h) now).wait = 4 := by
    unfold SE.wrote
    split
    · rfl
    · unfold s0N SE.wrote; split <;> rfl
  have fa : ((s0N h win now).wrote h (T - h) now).alarm = now + 4 := by
    unfold SE.wrote
    rw [eA]
    by_cases h0 : h = 0
    · rw [if_pos (by omega)]
    · rw [if_neg (by omega)]
      unfold s0N SE.wrote
      rw [if_pos ⟨rfl, by omega⟩]
  rw [eA, eN]
  refine ⟨⟨?_, ?_, ?_, ?_, ?_, ?_⟩, ⟨?_, ?_, ?_, ?_⟩, ?_, by simp, .inr (by have := (muS_le T { ((s0N h win now).wrote h (T - h) now) with N := max (min h win) (min T (0 + win)) } (.ack :: (cutsK h M 0 (min h win) ++ cutsK T M (min h win) (min T (0 + win))))).1; omega)⟩
  · simp only; rw [fA]; omega
  · simp only; omega
  · simp only; omega
  · simp only; rw [fA]; omega
  · intro a l hmem
    simp only [fA]
    rcases List.mem_cons.1 hmem with h0 | h0
    · cases h0
    · rcases List.mem_append.1 h0 with h1 | h1
      · obtain ⟨a', l', e, p1, p2, p3⟩ := cutsK_mem hm h1
        cases e
        omega
      · obtain ⟨a', l', e, p1, p2, p3⟩ := cutsK_mem hm h1
        cases e
        omega
  · simp only; rw [fc]; omega
  · simp only; rw [fc]; omega
  · simp only; rw [fc, fw]
  · simp only; rw [fa]; omega
  · simp only; rw [fa, fw]; omega
  · simp only; rw [fA]; omega
/-- a step of an open end: nothing is left to be sent and it is not done: it fails, or ticks; done; or more is sent -/
theorem BInv.step {ls : List Bool} {T win M k now m g G : Nat} {s : SE} {out : List SK} (h : BInv ls T win M k now m g G s out) (hm : 1 ≤ M) (hT : T ≤ 400) (hL : ls.length ≤ 60) (hk : k ≤ m) {p : List Nat × Nat × Nat × Nat} (hp : ph1 ls G m g out = p) {q : List SK × SE × Nat × Nat} (hq : ph2 ls T win M 4 now s p.2.2.1 p.2.2.2 p.1 = q) :
    AlInv now q.2.1 ∧ q.2.1.A ≤ T ∧ k + 1 ≤ q.2.2.1 ∧ p.2.1 ≤ T ∧
    (q.1 = [] → q.2.1.A < T → q.2.1.cnt = 10 → 10 ≤ q.2.2.2) ∧
    (q.1 = [] → q.2.1.A < T → q.2.1.cnt ≠ 10 → BInv ls T win M (k + 1) q.2.1.alarm q.2.2.1 q.2.2.2 p.2.1 (q.2.1.ticked T win M) [.pc q.2.1.A (q.2.1.tickN T win M)]) ∧
    (q.2.1.A = T → p.2.1 = T) ∧
    (q.1 ≠ [] → q.2.1.A < T → BInv ls T win M (k + 1) now q.2.2.1 q.2.2.2 p.2.1 q.2.1 q.1) := by
  have hs := stepS_ok ls (rto := 4) (tries := 10) (now := now) (m := m) hm h.i h.lt h.ne
  have ht : AlInv now q.2.1 := by rw [← hq]; exact ph2_time ls T win M now p.1 s _ _ h.t
  have hmu := muS_le T s out
  have f := ph1_facts ls s.N out G m g h.i.GN (fun a l ho => (h.i.pcs a l ho).2.2.1)
  have hNT := h.i.NT
  have hAG := h.i.AG
  rw [hp] at f
  have hf2 := ph2_facts ls T win M 4 now p.2.1 hm p.1 s p.2.2.1 p.2.2.2 (by omega) f.2.1 hNT h.i.all (fun x hx => (f.2.2.2.2 x hx).2)
  rw [hq] at hf2
  have hAT : q.2.1.A ≤ T := by omega
  have hGT : p.2.1 ≤ T := by omega
  have pot : ∀ m' mu', m + 1 ≤ m' → (ls.length ≤ m → mu' < muS T s out) → mu' ≤ 803 → k + 1 ≤ m' ∧ (k + 1 ≤ 60 ∨ k + 1 + mu' ≤ 863) := fun m' mu' a b c => pot_step hL hk h.pot (by omega) a b c
  unfold stepS at hs
  rw [hp] at hs
  simp only at hs
  rw [hq] at hs
  obtain ⟨qo, qs, qm, qg⟩ := q
  simp only at hs ht hAT ⊢
  have hm1 : m + 1 ≤ qm := by
    have := hs.1
    cases qo with
    | nil =>
      simp only at this
      by_cases h1 : qs.A < T
      · rw [if_pos h1] at this
        by_cases h2 : qs.cnt = 10
        · rw [if_pos h2] at this; exact this
        · rw [if_neg h2] at this; exact this
      · rw [if_neg h1] at this; exact this
    | cons o r => exact this
  refine ⟨ht, hAT, by omega, hGT, fun h0 h1 h2 => ?_, fun h0 h1 h2 => ?_, fun h1 => ?_, fun h0 h1 => ?_⟩
  · subst h0
    simp only [if_pos h1, if_pos h2] at hs
    exact hs.2.2.1 trivial
  · subst h0
    simp only [if_pos h1, if_neg h2] at hs
    rcases hs.2.2.2 trivial with ⟨h3, _⟩ | ⟨h3, h4, h5, h6⟩
    · have : (qs.ticked T win M).A = qs.A := rfl
      omega
    · have hmu' := muS_le T (qs.ticked T win M) [.pc qs.A (qs.tickN T win M)]
      exact ⟨h5, ht.ticked (by have := ht.c; omega) T win M, h3, h4, (pot qm _ hm1 h6 (by omega)).2⟩
  · cases qo with
    | nil =>
      simp only [if_neg (show ¬ qs.A < T by omega)] at hs
      rcases hs.2.2.2 trivial with ⟨_, h3⟩ | ⟨h3, _⟩
      · exact h3
      · omega
    | cons o r =>
      simp only at hs
      rcases hs.2.2.2 trivial with ⟨_, h3⟩ | ⟨h3, _⟩
      · exact h3
      · omega
  · cases qo with
    | nil => exact absurd rfl h0
    | cons o r =>
      simp only at hs
      rcases hs.2.2.2 trivial with ⟨h3, _⟩ | ⟨h3, h4, h5, h6⟩
      · omega
      · have hmu' := muS_le T qs (o :: r)
        exact ⟨h5, ht, h3, h4, (pot qm _ hm1 h6 (by omega)).2⟩
/-- opening -/
structure OpInv (ls : List Bool) (k now m g cnt wait al : Nat) : Prop where
  k : k ≤ 60
  c : cnt ≤ g
  c10 : cnt ≤ 10
  w : wait = 4 * 2 ^ cnt
  a : now ≤ al
  b : al ≤ now + wait
theorem OpInv.lost {ls : List Bool} {k now m g cnt wait al : Nat} (h : OpInv ls k now m g cnt wait al) (hL : ls.length ≤ 60) (hk : k ≤ m) {m' : Nat} (hm : m + 1 ≤ m') (hl : m' ≤ ls.length) (hc : cnt < 10) : OpInv ls (k + 1) al m' (g + 1) (cnt + 1) (wait * 2) (al + wait * 2) :=
  ⟨by omega, by have := h.c; omega, by omega, by rw [h.w, Nat.pow_succ]; omega, by omega, by omega⟩
theorem lostB_lt {ls : List Bool} {m : Nat} (h : lostB ls m = true) : m < ls.length := by
  rcases Nat.lt_or_ge m ls.length with h1 | h1
  · exact h1
  · rw [lostB_end h1] at h; cases h
end Go.Proofs.YtakgohocimlagaaGreat

namespace Go.Proofs.YtakgohocimlagaaGreat
open Go.RowKit Go.Lib
set_option linter.unusedVariables false
set_option linter.unusedSimpArgs false

/-! ### rows' own blocks -/
/-- block b holds elements of the type t -/
def Typ (w : World) (b : Nat) (t : TypeId) : Prop := ∃ cs z, w.heap[b]? = some (.cells cs t z)
theorem Typ.ne {w : World} {b b' : Nat} {t t' : TypeId} (h : Typ w b t) (h' : Typ w b' t') (hn : t ≠ t') : b ≠ b' := by
  rintro rfl
  obtain ⟨c, z, h⟩ := h
  obtain ⟨c', z', h'⟩ := h'
  rw [h] at h'
  injection h' with h'
  injection h' with h1 h2 h3
  exact hn h2
theorem Typ.own {w : World} {B sz n : Nat} {e : TypeId} {v : Value} {xs : List Value} (h : w.ownsRow B e sz v n xs) {j : Nat} (hj : v.ownBlock = some j) : Typ w j e := by
  obtain ⟨c, fz, hc⟩ := ownsRow_kind h j hj
  exact ⟨c, fz, hc⟩
/-- a row of bools in memory -/
def BoolsV (w : World) (L : Option Addr) (ls : List Bool) : Prop := ∀ (i : Nat) (b : Bool), ls[i]? = some b → ∃ g o, L = some ⟨g, o, none⟩ ∧ w.cell? ⟨g, o + i, none⟩ = some (.bool b)
theorem BoolsV.keep0 {w w' : World} {L : Option Addr} {ls : List Bool} (h : BoolsV w L ls) (k : Keeps [] w w') : BoolsV w' L ls := fun i b hb => by
  obtain ⟨g, o, h1, h2⟩ := h i b hb
  exact ⟨g, o, h1, cell_keeps k h2 (by simp)⟩
/-- the law's own variables -/
structure MM (W : World) (iss : Int) (sb bm bl bg : Nat) (L : Option Addr) (n c : Nat) (wr : World) (m g : Nat) : Prop where
  hsb : wr.heap[sb]? = some (.cells #[.int .u16 1, .int .u16 2, .int .u32 iss, .int .u16 1460, .int .i64 7, .bool true, .int .i64 100, .int .u64 4, .int .i64 10] 27 (0, 0))
  hbm : wr.heap[bm]? = some (.cells #[.int .i64 m] 3 (0, 0))
  hbl : wr.heap[bl]? = some (.cells #[.slice L n c] 57 (0, 0))
  hbg : wr.heap[bg]? = some (.cells #[.int .i64 g] 3 (0, 0))
  kp : Keeps [] W wr
  zs : W.heap.size ≤ sb
  zm : W.heap.size ≤ bm
  zl : W.heap.size ≤ bl
  zg : W.heap.size ≤ bg
  ne : bm ≠ bg
  gm : g ≤ m
  mm : m ≤ 1000000000000
theorem MM.keep {W : World} {iss : Int} {sb bm bl bg : Nat} {L : Option Addr} {n c : Nat} {wr w' : World} {m g : Nat} {S : List Nat} (h : MM W iss sb bm bl bg L n c wr m g) (k : Keeps S wr w') (hS : ∀ b ∈ S, W.heap.size ≤ b ∧ b ≠ sb ∧ b ≠ bm ∧ b ≠ bl ∧ b ≠ bg) : MM W iss sb bm bl bg L n c w' m g :=
  ⟨(k.block sb (lt_of_block h.hsb) (fun hm => (hS _ hm).2.1 rfl)).trans h.hsb, (k.block bm (lt_of_block h.hbm) (fun hm => (hS _ hm).2.2.1 rfl)).trans h.hbm, (k.block bl (lt_of_block h.hbl) (fun hm => (hS _ hm).2.2.2.1 rfl)).trans h.hbl, (k.block bg (lt_of_block h.hbg) (fun hm => (hS _ hm).2.2.2.2 rfl)).trans h.hbg,
   ((h.kp.mono (T := S) (by simp)).trans k).fresh (by intro j hj hlt; have := (hS j hj).1; omega), h.zs, h.zm, h.zl, h.zg, h.ne, h.gm, h.mm⟩
theorem MM.keep0 {W : World} {iss : Int} {sb bm bl bg : Nat} {L : Option Addr} {n c : Nat} {wr w' : World} {m g : Nat} (h : MM W iss sb bm bl bg L n c wr m g) (k : Keeps [] wr w') : MM W iss sb bm bl bg L n c w' m g := h.keep k (fun b hb => by cases hb)
theorem MM.typs {W : World} {iss : Int} {sb bm bl bg : Nat} {L : Option Addr} {n c : Nat} {wr : World} {m g : Nat} (h : MM W iss sb bm bl bg L n c wr m g) {b : Nat} {t : TypeId} (hb : Typ wr b t) (h1 : t ≠ 27) (h2 : t ≠ 3) (h3 : t ≠ 57) : b ≠ sb ∧ b ≠ bm ∧ b ≠ bl ∧ b ≠ bg :=
  ⟨hb.ne ⟨_, _, h.hsb⟩ h1, hb.ne ⟨_, _, h.hbm⟩ h2, hb.ne ⟨_, _, h.hbl⟩ h3, hb.ne ⟨_, _, h.hbg⟩ h2⟩
theorem int_noU8 {w : World} {b : Nat} {x : Int} {t : TypeId} {z : Nat × Nat} (h : w.heap[b]? = some (.cells #[.int .i64 x] t z)) : NoU8 w b := by
  intro i v hv
  rw [cell_of_block h i] at hv
  match i, hv with
  | 0, hv => simp at hv
  | i + 1, hv => simp at hv
set_option maxRecDepth 100000 in
set_option maxHeartbeats 2000000 in
/-- drop: is this one lost? -/
theorem drop_any {W : World} {iss : Int} {sb bm bl bg : Nat} {L : Option Addr} {c : Nat} {ls : List Bool} {w : World} {m g : Nat} (h : MM W iss sb bm bl bg L ls.length c w m g) (hb : BoolsV W L ls) (hl : ls.length ≤ 60) (hm : m + 1 ≤ 1000000000000) :
    Calls Tryz.prog 21 #[.pointer (some ⟨bm, 0, none⟩), .pointer (some ⟨bl, 0, none⟩), .pointer (some ⟨bg, 0, none⟩)] w fun e w' => e = .returned (.bool (lostB ls m)) ∧ MM W iss sb bm bl bg L ls.length c w' (m + 1) (if lostB ls m = true then g + 1 else g) ∧ Keeps [bm, bg] w w' := by
  have c0 := cell_of_block h.hbm 0
  have d0 := cell_of_block h.hbl 0
  have e0 := cell_of_block h.hbg 0
  have z0 := free_of_block h.hbm 0
  have y0 := free_of_block h.hbg 0
  simp at c0 d0 e0
  have hne := h.ne
  have hlm : bl ≠ bm := by
    intro e
    have h1 := h.hbl
    rw [e, h.hbm] at h1
    simp at h1
  have hlg : bl ≠ bg := by
    intro e
    have h1 := h.hbl
    rw [e, h.hbg] at h1
    simp at h1
  have hsm : sb ≠ bm := by
    intro e
    have h1 := h.hsb
    rw [e, h.hbm] at h1
    simp at h1
  have hsg : sb ≠ bg := by
    intro e
    have h1 := h.hsb
    rw [e, h.hbg] at h1
    simp at h1
  have i1 : IntKind.i64.wrap ((m : Int) + 1) = (m : Int) + 1 := by rw [IntKind.wrap_i64]; omega
  have i2 : IntKind.i64.wrap (m : Int) = m := by rw [IntKind.wrap_i64]; omega
  have i3 : IntKind.i64.wrap ((g : Int) + 1) = (g : Int) + 1 := by have := h.gm; rw [IntKind.wrap_i64]; omega
  have hM : MM W iss sb bm bl bg L ls.length c ((w.setCell ⟨bm, 0, none⟩ (.int .i64 ((m : Int) + 1))).setCell ⟨bg, 0, none⟩ (.int .i64 ((g : Int) + 1))) (m + 1) (g + 1) := by
    have k1 : Keeps [bm, bg] w ((w.setCell ⟨bm, 0, none⟩ (.int .i64 ((m : Int) + 1))).setCell ⟨bg, 0, none⟩ (.int .i64 ((g : Int) + 1))) := ((Keeps.setCell w ⟨bm, 0, none⟩ _).mono (by simp)).trans ((Keeps.setCell _ ⟨bg, 0, none⟩ _).mono (by simp))
    refine ⟨(k1.block sb (lt_of_block h.hsb) (by simp; omega)).trans h.hsb, ?_, (k1.block bl (lt_of_block h.hbl) (by simp; omega)).trans h.hbl, ?_, ((h.kp.mono (T := [bm, bg]) (by simp)).trans k1).fresh (by intro j hj hlt; simp at hj; have := h.zm; have := h.zg; omega), h.zs, h.zm, h.zl, h.zg, h.ne, by have := h.gm; omega, hm⟩
    · exact (Below.heap_setCell _ ⟨bg, 0, none⟩ _ bm hne).trans (heap_setCell_self h.hbm 0 _)
    · exact heap_setCell_self ((Below.heap_setCell _ ⟨bm, 0, none⟩ _ bg (Ne.symm hne)).trans h.hbg) 0 _
  have hM0 : MM W iss sb bm bl bg L ls.length c (w.setCell ⟨bm, 0, none⟩ (.int .i64 ((m : Int) + 1))) (m + 1) g := by
    have k1 : Keeps [bm] w (w.setCell ⟨bm, 0, none⟩ (.int .i64 ((m : Int) + 1))) := Keeps.setCell w ⟨bm, 0, none⟩ _
    refine ⟨(k1.block sb (lt_of_block h.hsb) (by simp; omega)).trans h.hsb, heap_setCell_self h.hbm 0 _, (k1.block bl (lt_of_block h.hbl) (by simp; omega)).trans h.hbl, (k1.block bg (lt_of_block h.hbg) (by simp; omega)).trans h.hbg, ((h.kp.mono (T := [bm]) (by simp)).trans k1).fresh (by intro j hj hlt; simp at hj; have := h.zm; omega), h.zs, h.zm, h.zl, h.zg, h.ne, by have := h.gm; omega, hm⟩
  have HM0 := Lib.hid hM0
  have HMM := Lib.hid hM
  have KK : Keeps [bm, bg] w (w.setCell ⟨bm, 0, none⟩ (.int .i64 ((m : Int) + 1))) := (Keeps.setCell w ⟨bm, 0, none⟩ _).mono (by simp)
  have KK2 := Lib.hid (KK.trans ((Keeps.setCell (w.setCell ⟨bm, 0, none⟩ (.int .i64 ((m : Int) + 1))) ⟨bg, 0, none⟩ (.int .i64 ((g : Int) + 1))).mono (T := [bm, bg]) (by simp)))
  have KK1 := Lib.hid KK
  clear hM0 hM KK
  by_cases hml : m < ls.length
  · have f1 : decide ((m : Int) + 1 ≤ (ls.length : Int)) = true := decide_eq_true (by omega)
    have f2 : decide (m + 1 ≤ ls.length) = true := decide_eq_true (by omega)
    obtain ⟨gb, o, rfl, hc⟩ := hb m ls[m] (List.getElem?_eq_getElem hml)
    have hc := cell_keeps h.kp hc (by simp)
    have hcm : (w.setCell ⟨bm, 0, none⟩ (.int .i64 ((m : Int) + 1))).cell? ⟨gb, o + m, none⟩ = some (.bool ls[m]) := cell_keeps (Keeps.setCell w ⟨bm, 0, none⟩ _) hc (by
      simp only [List.mem_singleton]
      intro e
      have h1 := h.hbm
      rw [← e] at h1
      rw [cell_of_block h1 (o + m)] at hc
      generalize o + m = k at hc
      match k, hc with
      | 0, hc => simp at hc
      | k + 1, hc => simp at hc)
    have j1 : (m : Int) < (ls.length : Int) := by omega
    have hlo : lostB ls m = ls[m] := by unfold lostB; rw [List.getD_eq_getElem?_getD, List.getElem?_eq_getElem hml]; rfl
    rw [hlo]
    generalize ls[m] = lb at *
    clear hb h hlo
    cases lb
    · go_enter Tryz.func21, Tryz.ntmps21
      go_wp2_with fail
      go_ret
      exact ⟨rfl, HM0.out, KK1.out⟩
    · go_enter Tryz.func21, Tryz.ntmps21
      go_wp2_with fail
      go_ret
      exact ⟨rfl, HMM.out, KK2.out⟩
  · have f1 : decide ((m : Int) + 1 ≤ (ls.length : Int)) = false := decide_eq_false (by omega)
    have f2 : decide (m + 1 ≤ ls.length) = false := decide_eq_false (by omega)
    have hlo : lostB ls m = false := lostB_end (by omega)
    rw [hlo]
    clear hb h hlo
    go_enter Tryz.func21, Tryz.ntmps21
    go_wp2_with fail
    go_ret
    exact ⟨rfl, HM0.out, KK1.out⟩
/-- what is sent may be -/
theorem may_it {D : List UInt8} {iss irs : Int} {w : World} {N : List Nat} {g : GS} {it : It} (h : ItV D iss irs w N g it) (hl : D.length ≤ 400) :
    Calls Tryz.prog 11 #[.agg #[.int .u16 g.sp, .int .u16 g.dp, .int .u32 g.sq, .int .u32 g.ak, .int .u8 g.fl, .int .u16 g.wn, .int .u16 g.ug, .slice g.oA g.oN g.oC, .slice g.dA g.dN g.dC]] w fun e w' => e = .returned (.bool true) ∧ Keeps [] w w' := by
  match it, h with
  | .syn, ⟨h1, h2, h3, h4, h5, h6, h7, h8, h9, h10, h11⟩ =>
    have := may_any w ⟨g.sp, g.dp, g.sq, g.ak, g.fl, g.wn, g.ug, synO, []⟩ g.oA none g.oN g.oC 0 0 h8 (BytesV.nil w)
    rw [h9, h10, h11]
    rw [show mayB (⟨g.sp, g.dp, g.sq, g.ak, g.fl, g.wn, g.ug, synO, []⟩ : Seg).ops (⟨g.sp, g.dp, g.sq, g.ak, g.fl, g.wn, g.ug, synO, []⟩ : Seg).data.length = true from (by decide : mayB synO 0 = true)] at this
    exact this
  | .sk .ack, ⟨h1, h2, h3, h4, h5, h6, h7, h8, h9, h10, h11, h12, h13⟩ =>
    have := may_any w ⟨g.sp, g.dp, g.sq, g.ak, g.fl, g.wn, g.ug, [], []⟩ none none 0 0 0 0 (OptsV.nil w) (BytesV.nil w)
    rw [h8, h9, h10, h11, h12, h13]
    rw [show mayB (⟨g.sp, g.dp, g.sq, g.ak, g.fl, g.wn, g.ug, [], []⟩ : Seg).ops (⟨g.sp, g.dp, g.sq, g.ak, g.fl, g.wn, g.ug, [], []⟩ : Seg).data.length = true from (by decide : mayB [] 0 = true)] at this
    exact this
  | .sk (.pc a l), ⟨h1, h2, h3, h4, h5, h6, h7, h8, h9, h10, h11, h12⟩ =>
    have hb := h12.1
    have hn := hb.form.1
    have := may_any w ⟨g.sp, g.dp, g.sq, g.ak, g.fl, g.wn, g.ug, [], (D.drop a).take l⟩ none g.dA 0 0 g.dN g.dC (OptsV.nil w) hb
    rw [h8, h9, h10]
    have e : mayB (⟨g.sp, g.dp, g.sq, g.ak, g.fl, g.wn, g.ug, [], (D.drop a).take l⟩ : Seg).ops (⟨g.sp, g.dp, g.sq, g.ak, g.fl, g.wn, g.ug, [], (D.drop a).take l⟩ : Seg).data.length = true := by
      have hlen : ((D.drop a).take l).length ≤ 400 := by rw [List.length_take, List.length_drop]; omega
      show mayB [] ((D.drop a).take l).length = true
      unfold mayB
      rw [show putOk [] = true by decide, Bool.true_and]
      apply decide_eq_true
      rw [IntKind.wrap_i64]
      have : totO [] + padN (totO []) = 0 := by decide
      rw [this]
      omega
    rw [e] at this
    exact this
end Go.Proofs.YtakgohocimlagaaGreat

namespace Go.Proofs.YtakgohocimlagaaGreat
open Go.RowKit Go.Lib
set_option linter.unusedVariables false
set_option linter.unusedSimpArgs false

/-! ### the end's states -/
/-- opening: nothing but the first part D is written -/
def OpV (D : List UInt8) (iss : Int) (w : World) (x cnt wait al : Nat) : Prop := ∃ A c, EndAt w x (opE iss (.slice A D.length c) al wait cnt) ∧ BytesV w (.slice A D.length c) D
/-- open, the first part is written -/
def HalfV (D : List UInt8) (iss irs : Int) (M win : Nat) (w : World) (x r : Nat) (s : SE) : Prop :=
  x ≠ r ∧ ∃ sk A c al wt ct X, EndAt w x (onE iss irs M win r sk (.slice A D.length c) al wt ct) ∧ BytesV w (.slice A D.length c) D ∧ RxAt w r X ∧ XInv D iss win (fun _ => True) s X
/-- the end at x, its buffer at r, with what is written (D, then E), holding bytes only where P tells -/
def EV (D E : List UInt8) (iss irs : Int) (M win : Nat) (P : Nat → Prop) (w : World) (x r : Nat) : ET → Prop
  | .op cnt wait al => r = x ∧ OpV D iss w x cnt wait al
  | .half s => HalfV D iss irs M win w x r s
  | .on s => OnV (D ++ E) iss irs M win P w x r s
theorem onE_no {w : World} {x r : Nat} {iss irs : Int} {M win : Nat} {sk : Bool} {A : Option Addr} {n c : Nat} {al wt ct : Int} (h : EndAt w x (onE iss irs M win r sk (.slice A n c) al wt ct)) : NoU8 w x := h.noU8 rfl ⟨_, _, _, rfl⟩ rfl ⟨_, _, _, rfl⟩
theorem EV.typs {D E : List UInt8} {iss irs : Int} {M win : Nat} {P : Nat → Prop} {w : World} {x r : Nat} {e : ET} (h : EV D E iss irs M win P w x r e) : Typ w x 66 ∧ (Typ w r 66 ∨ Typ w r 97) ∧ NoU8 w x ∧ NoU8 w r := by
  match e, h with
  | .op cnt wait al, h =>
    obtain ⟨e, A, c, hE, _⟩ := h
    subst e
    exact ⟨⟨_, _, hE⟩, .inl ⟨_, _, hE⟩, opE_no hE, opE_no hE⟩
  | .half s, ⟨_, sk, A, c, al, wt, ct, X, hE, _, hX, _⟩ => exact ⟨⟨_, _, hE⟩, .inr ⟨_, _, hX.head⟩, onE_no hE, hX.no⟩
  | .on s, ⟨_, sk, A, n, c, al, wt, ct, X, hE, hX, _⟩ => exact ⟨⟨_, _, hE⟩, .inr ⟨_, _, hX.head⟩, onE_no hE, hX.no⟩
/-- other blocks are changed: such as hold no bytes; or, where it is open, such as it holds nothing in -/
theorem EV.keep {D E : List UInt8} {iss irs : Int} {M win : Nat} {P : Nat → Prop} {w w' : World} {x r : Nat} {e : ET} {S : List Nat} (h : EV D E iss irs M win P w x r e) (k : Keeps S w w') (hS : ∀ b ∈ S, (b ≠ x ∧ b ≠ r) ∧ (NoU8 w b ∨ ((∃ s, e = .on s) ∧ ¬ P b))) : EV D E iss irs M win P w' x r e := by
  classical
  have hx : x ∉ S := fun hm => (hS x hm).1.1 rfl
  have hr : r ∉ S := fun hm => (hS r hm).1.2 rfl
  match e, h with
  | .op cnt wait al, h =>
    obtain ⟨e, A, c, hE, hb⟩ := h
    subst e
    exact ⟨rfl, A, c, hE.keep k hx, hb.keepN k (fun b hm => (hS b hm).2.elim id (fun ⟨⟨s, h⟩, _⟩ => by cases h))⟩
  | .half s, ⟨hxr, sk, A, c, al, wt, ct, X, hE, hb, hX, hI⟩ =>
    have hno : ∀ b ∈ S, NoU8 w b := fun b hm => (hS b hm).2.elim id (fun ⟨⟨s, h⟩, _⟩ => by cases h)
    exact ⟨hxr, sk, A, c, al, wt, ct, X, hE.keep k hx, hb.keepN k hno, ⟨(k.block r hX.lt hr).trans hX.head, hX.data.keepN k hno⟩, hI⟩
  | .on s, ⟨hxr, sk, A, n, c, al, wt, ct, X, hE, hX, hI⟩ =>
    refine ⟨hxr, sk, A, n, c, al, wt, ct, X, hE.keep k hx, ⟨(k.block r hX.lt hr).trans hX.head, ?_⟩, hI⟩
    have hd : DatV w (S.filter (fun b => decide (¬ NoU8 w b) )) X.dataA X.data.length X.dataC X.data := ⟨hX.data, fun hl a ha => ⟨hX.inP hl a ha, fun hm => by
      simp only [List.mem_filter, decide_eq_true_eq] at hm
      rcases (hS _ hm.1).2 with h1 | ⟨_, h1⟩
      · exact hm.2 h1
      · exact h1 (hI.low hl a ha)⟩⟩
    exact (hd.keepN k (fun b hm => by
      by_cases hn : NoU8 w b
      · exact .inl hn
      · exact .inr (by simp only [List.mem_filter, decide_eq_true_eq]; exact ⟨hm, hn⟩))).1
theorem EV.keep0 {D E : List UInt8} {iss irs : Int} {M win : Nat} {P : Nat → Prop} {w w' : World} {x r : Nat} {e : ET} (h : EV D E iss irs M win P w x r e) (k : Keeps [] w w') : EV D E iss irs M win P w' x r e := h.keep k (fun b hm => by cases hm)

/-! ### Take -/
theorem ItV.more {D E : List UInt8} {iss irs : Int} {w : World} {N : List Nat} {g : GS} {it : It} (h : ItV D iss irs w N g it) (hl : ∀ a l, it = .sk (.pc a l) → a + l ≤ D.length) : ItV (D ++ E) iss irs w N g it := by
  match it, h with
  | .syn, h => exact h
  | .sk .ack, h => exact h
  | .sk (.pc a l), ⟨h1, h2, h3, h4, h5, h6, h7, h8, h9, h10, h11, h12⟩ =>
    have h0 := hl a l rfl
    have e : ((D ++ E).drop a).take l = (D.drop a).take l := by
      rw [List.drop_append_of_le_length (by omega), List.take_append_of_le_length (by rw [List.length_drop]; omega)]
    exact ⟨h1, h2, h3, h4, h5, h6, h7, h8, h9, h10, h11, by rw [e]; exact h12⟩
theorem XInv.new {iss : Int} {win : Nat} (w1 : win ≤ 500) : XInv [] iss win (fun _ => True) ⟨0, 0, 0, 4, 0⟩ (RX.new (addI iss 1) win 4 10) := by
  refine ⟨⟨by constructor <;> (simp only [RX.new]; unfold addI; omega), by simp [RX.new], by simp [RX.new], by simp only [RX.new]; omega, by simp only [RX.new]; omega, by simp only [RX.new]; omega, by simp only [RX.new]; omega⟩, by simp, by simp, by simp, rfl, ?_, rfl, rfl, rfl, rfl, rfl, rfl, rfl, fun h => by simp [RX.new] at h⟩
  simp only [RX.new]
  unfold addI
  omega
theorem take_op {D : List UInt8} {iss irs : Int} {M win : Nat} {w : World} {x : Nat} {cnt wait al : Nat} (h : OpV D iss w x cnt wait al) (hD : D.length ≤ 400) (hu : U32 iss) (hir : U32 irs) (m0 : 1 ≤ M) (w0 : 1 ≤ win) (w1 : win ≤ 500) (mss : Int) (q0 : 0 ≤ mss) (q1 : mss ≤ 65535) (hM : min (max mss 88) 1460 = (M : Int)) (oA : Option Addr) (oN oC : Nat) (hop : OptsV w (.slice oA oN oC) [(2, put16 mss)]) (now : Nat) (n1 : now ≤ 4398046511104) :
    Calls Tryz.prog 12 #[.pointer (some ⟨x, 0, none⟩), .agg #[.int .u16 2, .int .u16 1, .int .u32 irs, .int .u32 (addI iss 1), .int .u8 18, .int .u16 win, .int .u16 0, .slice oA oN oC, .slice none 0 0], .int .u64 now] w fun e w' => ∃ v l r, e = .returned (.tuple #[v, .int .i64 0]) ∧ gsK.Own w' w.heap.size 39 v l ∧
      (∀ N : List Nat, (∀ b ∈ N, b < w.heap.size) → RowV (ItV D iss irs w' N) l (.sk .ack :: (cutsK D.length M 0 (min D.length win)).map It.sk)) ∧ HalfV D iss irs M win w' x r (s0N D.length win now) ∧ w.heap.size ≤ r ∧ Keeps [x] w w' := by
  obtain ⟨A, c, hE, hb⟩ := h
  have hxl := hE.lt
  refine (etake_opening hE hb hD hu 2 1 irs hir win M w0 w1 mss q0 q1 hM oA oN oC hop now (by omega) (by omega)).mono ?_
  rintro e w' ⟨v, l, r, A', c', rfl, own, pcs, rx, en, hb', hr, k⟩
  have hI1 := (XInv.new (iss := iss) w1).wrote (E := D) (by simpa using hD) A' c' now (fun _ => True) (fun _ _ _ => trivial)
  have hc := hI1.cuts m0
  have eA : (SE.wrote ⟨0, 0, 0, 4, 0⟩ ([] : List UInt8).length D.length now).A = 0 := by unfold SE.wrote; split <;> rfl
  have eN : (SE.wrote ⟨0, 0, 0, 4, 0⟩ ([] : List UInt8).length D.length now).N = 0 := by unfold SE.wrote; split <;> rfl
  have hI2 := hI1.sentN eN eA
  rw [eA, eN] at hc
  simp only [List.nil_append, List.length_nil, Nat.zero_add, Nat.zero_max] at hc hI2
  refine ⟨v, _, r, rfl, own, fun N hN => ?_, ⟨by omega, false, A, c, al, wait, cnt, _, en, hb', rx, hI2⟩, hr, k⟩
  exact RowV.append (l := [_]) (m := [_]) (RowV.one ⟨rfl, rfl, rfl, rfl, rfl, rfl, rfl, rfl, rfl, rfl, rfl, rfl, rfl⟩) (its_of_pcs rfl rfl rfl pcs hc (fun b hb => .inl (hN b hb)))
theorem take_any {D E : List UInt8} {iss irs : Int} {M win : Nat} {P : Nat → Prop} {w : World} {x r : Nat} {e : ET} {b : An} {g : GS} (h : EV D E iss irs M win P w x r e) (hok : OkB e b) (hD : D.length ≤ 400) (hu : U32 iss) (hir : U32 irs) (m0 : 1 ≤ M) (m1 : M ≤ 1460) (w0 : 1 ≤ win) (w1 : win ≤ 500) (mss : Int) (q0 : 0 ≤ mss) (q1 : mss ≤ 65535) (hM : min (max mss 88) 1460 = (M : Int)) (hg : AnV iss irs win mss w g b) (now : Nat) (n1 : now ≤ 4398046511104) :
    Calls Tryz.prog 12 #[.pointer (some ⟨x, 0, none⟩), .agg #[.int .u16 g.sp, .int .u16 g.dp, .int .u32 g.sq, .int .u32 g.ak, .int .u8 g.fl, .int .u16 g.wn, .int .u16 g.ug, .slice g.oA g.oN g.oC, .slice g.dA g.dN g.dC], .int .u64 now] w fun e' w' => ∃ v l r', e' = .returned (.tuple #[v, .int .i64 0]) ∧ gsK.Own w' w.heap.size 39 v l ∧
      (∀ N : List Nat, (∀ b ∈ N, b < w.heap.size) → RowV (ItV (D ++ E) iss irs w' N) l (outE D.length (D ++ E).length win M now e b)) ∧ EV D E iss irs M win P w' x r' (nextE D.length (D ++ E).length win now e b) ∧ (r' = r ∨ w.heap.size ≤ r') ∧ Keeps [x, r] w w' := by
  match e, b, hok, h, hg with
  | .op cnt wait al, .syn, _, h, ⟨g1, g2, g3, g4, g5, g6, g7, g8, g9, g10, g11⟩ =>
    obtain ⟨e, h⟩ := h
    subst e
    rw [g1, g2, g3, g4, g5, g6, g7, g9, g10, g11]
    refine (take_op h hD hu hir m0 w0 w1 mss q0 q1 hM g.oA g.oN g.oC g8 now n1).mono ?_
    rintro e' w' ⟨v, l, r', rfl, own, hr, hh, hl, k⟩
    refine ⟨v, l, r', rfl, own, fun N hN => (hr N hN).imp (fun y it hm hi => hi.more (fun a n ha => ?_)), hh, .inr hl, k.mono (by simp)⟩
    subst ha
    rcases List.mem_cons.1 hm with h0 | h0
    · cases h0
    · obtain ⟨o, ho, e0⟩ := List.mem_map.1 h0
      cases e0
      obtain ⟨a', l', e1, _, _, h3⟩ := cutsK_mem m0 ho
      cases e1
      omega
  | .on s, .ok n, ⟨o1, o2⟩, h, ⟨g1, g2, g3, g4, g5, g6, g7, g8, g9, g10, g11, g12, g13⟩ =>
    rw [g1, g2, g3, g4, g5, g6, g7, g8, g9, g10, g11, g12, g13]
    refine (take_on h m0 m1 w0 w1 hir n o1 o2 now n1).mono ?_
    rintro e' w' ⟨v, l, rfl, own, hr, hh, k⟩
    exact ⟨v, l, r, rfl, own, hr, hh, .inl rfl, k⟩
end Go.Proofs.YtakgohocimlagaaGreat

namespace Go.Proofs.YtakgohocimlagaaGreat
open Go.RowKit Go.Lib
set_option linter.unusedVariables false
set_option linter.unusedSimpArgs false

theorem DatV.step {w w' : World} {N N' : List Nat} {A : Option Addr} {n c : Nat} {l : List UInt8} {S : List Nat} (h : DatV w N A n c l) (k : Keeps S w w') (hS : ∀ b ∈ S, NoU8 w b ∨ b ∈ N) (hN : ∀ b ∈ N', b < w.heap.size → b ∈ N) : DatV w' N' A n c l :=
  ⟨(h.keepN k hS).1, fun hp a ha => ⟨Nat.lt_of_lt_of_le (h.2 hp a ha).1 k.size, fun hm => (h.2 hp a ha).2 (hN _ hm (h.2 hp a ha).1)⟩⟩
theorem ItV.step {D : List UInt8} {iss irs : Int} {w w' : World} {N N' : List Nat} {g : GS} {it : It} {S : List Nat} (h : ItV D iss irs w N g it) (k : Keeps S w w') (hS : ∀ b ∈ S, NoU8 w b ∨ (b ∈ N ∧ it ≠ .syn)) (hN : ∀ b ∈ N', b < w.heap.size → b ∈ N) : ItV D iss irs w' N' g it := by
  match it, h with
  | .syn, ⟨h1, h2, h3, h4, h5, h6, h7, h8, h9⟩ =>
    exact ⟨h1, h2, h3, h4, h5, h6, h7, h8.keepN k (fun b hb => (hS b hb).elim id (fun h => absurd rfl h.2)), h9⟩
  | .sk .ack, h => exact h
  | .sk (.pc a l), ⟨h1, h2, h3, h4, h5, h6, h7, h8, h9, h10, h11, h12⟩ =>
    exact ⟨h1, h2, h3, h4, h5, h6, h7, h8, h9, h10, h11, h12.step k (fun b hb => (hS b hb).imp id And.left) hN⟩
/-- the blocks of rows of one's own -/
def nB (vs : List Value) : List Nat := vs.filterMap Value.ownBlock
theorem mem_nB {vs : List Value} {b : Nat} : b ∈ nB vs ↔ ∃ v ∈ vs, v.ownBlock = some b := by unfold nB; rw [List.mem_filterMap]
/-- what the peer has got -/
def GotV (D : List UInt8) (B : Nat) (w : World) (v : Value) (G : Nat) : Prop := G ≤ D.length ∧ w.ownsRow B 5 1 v G ((D.take G).map u8V)
structure AllM (W : World) (iss irs : Int) (D1 D2 : List UInt8) (M win : Nat) (mss : Int) (sb bm bl : Nat) (L : Option Addr) (n lc lo hi x : Nat) (w : World) (m g r : Nat) (e : ET) (v24 : Value) (G : Nat) (bb : Nat) (v28 : Value) (lb lbr : List GS) (bkr : List An) (ob : Nat) (v15 : Value) (l lr : List GS) (itr : List It) : Prop where
  mm : MM W iss sb bm bl (bm + 1) L n lc w m g
  ev : EV D1 D2 iss irs M win (fun j => lo ≤ j ∧ j < hi) w x r e
  got : GotV (D1 ++ D2) hi w v24 G
  bo : gsK.Own w bb 39 v28 lb
  br : RowV (AnV iss irs win mss w) lbr bkr
  oo : gsK.Own w ob 39 v15 l
  orr : RowV (ItV (D1 ++ D2) iss irs w (nB [v24, v28, v15])) lr itr
  ne : ∀ j, v28.ownBlock = some j → v15.ownBlock ≠ some j
  zx : W.heap.size ≤ x
  zr : W.heap.size ≤ r
  zh : W.heap.size ≤ hi
theorem own_lt' {w : World} {B e sz n : Nat} {v : Value} {xs : List Value} (h : w.ownsRow B e sz v n xs) {j : Nat} (hj : v.ownBlock = some j) : j < w.heap.size := (h.lt j hj).2
theorem nB_lt {w : World} {a b c : Nat} {v24 v28 v15 : Value} {G : Nat} {D : List UInt8} {lb l : List GS} (h1 : GotV D a w v24 G) (h2 : gsK.Own w b 39 v28 lb) (h3 : gsK.Own w c 39 v15 l) : ∀ j ∈ nB [v24, v28, v15], j < w.heap.size := by
  intro j hj
  obtain ⟨v, hv, e⟩ := mem_nB.1 hj
  simp only [List.mem_cons, List.not_mem_nil, or_false] at hv
  rcases hv with rfl | rfl | rfl
  · exact own_lt' h1.2 e
  · exact own_lt' h2 e
  · exact own_lt' h3 e
section
variable {W : World} {iss irs : Int} {D1 D2 : List UInt8} {M win : Nat} {mss : Int} {sb bm bl : Nat} {L : Option Addr} {n lc lo hi x : Nat} {w w' : World} {m g r : Nat} {e : ET} {v24 : Value} {G : Nat} {bb : Nat} {v28 : Value} {lb lbr : List GS} {bkr : List An} {ob : Nat} {v15 : Value} {l lr : List GS} {itr : List It}
/-- a change of some blocks, none of the law's own, none of its rows, none of the end's, all new since the start -/
theorem AllM.keepS {S : List Nat} (h : AllM W iss irs D1 D2 M win mss sb bm bl L n lc lo hi x w m g r e v24 G bb v28 lb lbr bkr ob v15 l lr itr) (k : Keeps S w w') (hm : ∀ b ∈ S, W.heap.size ≤ b ∧ b ≠ sb ∧ b ≠ bm ∧ b ≠ bl ∧ b ≠ bm + 1) (he : EV D1 D2 iss irs M win (fun j => lo ≤ j ∧ j < hi) w' x r e) (hr : ∀ b ∈ S, b ∉ nB [v24, v28, v15]) (hu : ∀ b ∈ S, NoU8 w b) : AllM W iss irs D1 D2 M win mss sb bm bl L n lc lo hi x w' m g r e v24 G bb v28 lb lbr bkr ob v15 l lr itr :=
  ⟨h.mm.keep k hm, he, ⟨h.got.1, own_keepsS h.got.2 k (fun j hj hs => hr j hs (mem_nB.2 ⟨v24, by simp, hj⟩))⟩, own_keepsS h.bo k (fun j hj hs => hr j hs (mem_nB.2 ⟨v28, by simp, hj⟩)), h.br.imp (fun a b hb ha => ha.keepN k (fun j hj => .inl (hu j hj))), own_keepsS h.oo k (fun j hj hs => hr j hs (mem_nB.2 ⟨v15, by simp, hj⟩)),
   h.orr.imp (fun a b hb ha => ha.keepN k (fun j hj => .inl (hu j hj))), h.ne, h.zx, h.zr, h.zh⟩
theorem AllM.keep0 (h : AllM W iss irs D1 D2 M win mss sb bm bl L n lc lo hi x w m g r e v24 G bb v28 lb lbr bkr ob v15 l lr itr) (k : Keeps [] w w') : AllM W iss irs D1 D2 M win mss sb bm bl L n lc lo hi x w' m g r e v24 G bb v28 lb lbr bkr ob v15 l lr itr :=
  h.keepS k (fun b hb => by cases hb) (h.ev.keep0 k) (fun b hb => by cases hb) (fun b hb => by cases hb)
theorem AllM.owns (h : AllM W iss irs D1 D2 M win mss sb bm bl L n lc lo hi x w m g r e v24 G bb v28 lb lbr bkr ob v15 l lr itr) {j : Nat} (hj : j ∈ nB [v24, v28, v15]) : Typ w j 5 ∨ Typ w j 39 := by
  obtain ⟨v, hv, e⟩ := mem_nB.1 hj
  simp only [List.mem_cons, List.not_mem_nil, or_false] at hv
  rcases hv with rfl | rfl | rfl
  · exact .inl (Typ.own h.got.2 e)
  · exact .inr (Typ.own h.bo e)
  · exact .inr (Typ.own h.oo e)
theorem AllM.far (h : AllM W iss irs D1 D2 M win mss sb bm bl L n lc lo hi x w m g r e v24 G bb v28 lb lbr bkr ob v15 l lr itr) {j : Nat} (hj : Typ w j 5 ∨ Typ w j 39) : (j ≠ x ∧ j ≠ r) ∧ j ≠ sb ∧ j ≠ bm ∧ j ≠ bl ∧ j ≠ bm + 1 := by
  obtain ⟨t1, t2, _, _⟩ := h.ev.typs
  rcases hj with hj | hj
  · exact ⟨⟨hj.ne t1 (by decide), t2.elim (fun t => hj.ne t (by decide)) (fun t => hj.ne t (by decide))⟩, h.mm.typs hj (by decide) (by decide) (by decide)⟩
  · exact ⟨⟨hj.ne t1 (by decide), t2.elim (fun t => hj.ne t (by decide)) (fun t => hj.ne t (by decide))⟩, h.mm.typs hj (by decide) (by decide) (by decide)⟩
/-- drop was called -/
theorem AllM.drop {m' g' : Nat} (h : AllM W iss irs D1 D2 M win mss sb bm bl L n lc lo hi x w m g r e v24 G bb v28 lb lbr bkr ob v15 l lr itr) (hm : MM W iss sb bm bl (bm + 1) L n lc w' m' g') (k : Keeps [bm, bm + 1] w w') : AllM W iss irs D1 D2 M win mss sb bm bl L n lc lo hi x w' m' g' r e v24 G bb v28 lb lbr bkr ob v15 l lr itr := by
  obtain ⟨t1, t2, _, _⟩ := h.ev.typs
  have hu : ∀ b ∈ [bm, bm + 1], NoU8 w b := fun b hb => by
    simp only [List.mem_cons, List.not_mem_nil, or_false] at hb
    rcases hb with rfl | rfl
    · exact int_noU8 h.mm.hbm
    · exact int_noU8 h.mm.hbg
  have hx : ∀ b ∈ [bm, bm + 1], Typ w b 3 := fun b hb => by
    simp only [List.mem_cons, List.not_mem_nil, or_false] at hb
    rcases hb with rfl | rfl
    · exact ⟨_, _, h.mm.hbm⟩
    · exact ⟨_, _, h.mm.hbg⟩
  have he := h.ev.keep k (fun b hb => ⟨⟨(hx b hb).ne t1 (by decide), t2.elim (fun t => (hx b hb).ne t (by decide)) (fun t => (hx b hb).ne t (by decide))⟩, .inl (hu b hb)⟩)
  have hr : ∀ b ∈ [bm, bm + 1], b ∉ nB [v24, v28, v15] := fun b hb hn => by
    rcases h.owns hn with t | t
    · exact (hx b hb).ne t (by decide) rfl
    · exact (hx b hb).ne t (by decide) rfl
  exact ⟨hm, he, ⟨h.got.1, own_keepsS h.got.2 k (fun j hj hs => hr j hs (mem_nB.2 ⟨v24, by simp, hj⟩))⟩, own_keepsS h.bo k (fun j hj hs => hr j hs (mem_nB.2 ⟨v28, by simp, hj⟩)), h.br.imp (fun a b hb ha => ha.keepN k (fun j hj => .inl (hu j hj))), own_keepsS h.oo k (fun j hj hs => hr j hs (mem_nB.2 ⟨v15, by simp, hj⟩)),
   h.orr.imp (fun a b hb ha => ha.keepN k (fun j hj => .inl (hu j hj))), h.ne, h.zx, h.zr, h.zh⟩
/-- Take, Write or Tick was called -/
theorem AllM.took {r' : Nat} {e' : ET} (h : AllM W iss irs D1 D2 M win mss sb bm bl L n lc lo hi x w m g r e v24 G bb v28 lb lbr bkr ob v15 l lr itr) {hi' lo' : Nat} (hh : hi' = hi ∨ (hi ≤ hi' ∧ v24 = .slice none 0 0)) (he : EV D1 D2 iss irs M win (fun j => lo' ≤ j ∧ j < hi') w' x r' e') (hr' : r' = r ∨ w.heap.size ≤ r') (k : Keeps [x, r] w w') : AllM W iss irs D1 D2 M win mss sb bm bl L n lc lo' hi' x w' m g r' e' v24 G bb v28 lb lbr bkr ob v15 l lr itr := by
  obtain ⟨t1, t2, u1, u2⟩ := h.ev.typs
  have hu : ∀ b ∈ [x, r], NoU8 w b := fun b hb => by
    simp only [List.mem_cons, List.not_mem_nil, or_false] at hb
    rcases hb with rfl | rfl
    · exact u1
    · exact u2
  have hx : ∀ b ∈ [x, r], Typ w b 66 ∨ Typ w b 97 := fun b hb => by
    simp only [List.mem_cons, List.not_mem_nil, or_false] at hb
    rcases hb with rfl | rfl
    · exact .inl t1
    · exact t2
  have hr : ∀ b ∈ [x, r], b ∉ nB [v24, v28, v15] := fun b hb hn => by
    rcases h.owns hn with t | t
    · rcases hx b hb with q | q
      · exact q.ne t (by decide) rfl
      · exact q.ne t (by decide) rfl
    · rcases hx b hb with q | q
      · exact q.ne t (by decide) rfl
      · exact q.ne t (by decide) rfl
  have hm : ∀ b ∈ [x, r], W.heap.size ≤ b ∧ b ≠ sb ∧ b ≠ bm ∧ b ≠ bl ∧ b ≠ bm + 1 := fun b hb => by
    refine ⟨?_, ?_⟩
    · simp only [List.mem_cons, List.not_mem_nil, or_false] at hb
      rcases hb with rfl | rfl
      · exact h.zx
      · exact h.zr
    · rcases hx b hb with q | q
      · exact h.mm.typs q (by decide) (by decide) (by decide)
      · exact h.mm.typs q (by decide) (by decide) (by decide)
  have hg := own_keepsS h.got.2 k (fun j hj hs => hr j hs (mem_nB.2 ⟨v24, by simp, hj⟩))
  have hwx := lt_of_block h.mm.hsb
  refine ⟨h.mm.keep k hm, he, ⟨h.got.1, ?_⟩, own_keepsS h.bo k (fun j hj hs => hr j hs (mem_nB.2 ⟨v28, by simp, hj⟩)), h.br.imp (fun a b hb ha => ha.keepN k (fun j hj => .inl (hu j hj))), own_keepsS h.oo k (fun j hj hs => hr j hs (mem_nB.2 ⟨v15, by simp, hj⟩)),
   h.orr.imp (fun a b hb ha => ha.keepN k (fun j hj => .inl (hu j hj))), h.ne, h.zx, ?_, ?_⟩
  · rcases hh with rfl | ⟨_, rfl⟩
    · exact hg
    · have hz : G = 0 := by
        rcases hg.2 with ⟨_, h0⟩ | ⟨_, _, _, e, _⟩
        · exact h0
        · cases e
      subst hz
      exact World.ownsRow_nil _ _ _ _
  · rcases hr' with rfl | h1
    · exact h.zr
    · have := h.mm.kp.size; omega
  · rcases hh with rfl | ⟨h1, _⟩
    · exact h.zh
    · have := h.zh; omega
/-- a row of the end's own place grows: what else holds -/
theorem AllM.grows {v : Value} {base : Nat} {j : Nat} (h : AllM W iss irs D1 D2 M win mss sb bm bl L n lc lo hi x w m g r e v24 G bb v28 lb lbr bkr ob v15 l lr itr) (hj : j ∈ nB [v24, v28, v15]) (hW : W.heap.size ≤ j) (hP : (∃ s, e = .on s) ∧ ¬ (lo ≤ j ∧ j < hi)) (k : Keeps [j] w w') : MM W iss sb bm bl (bm + 1) L n lc w' m g ∧ EV D1 D2 iss irs M win (fun j => lo ≤ j ∧ j < hi) w' x r e := by
  have hf := h.far (h.owns hj)
  exact ⟨h.mm.keep k (fun b hb => by simp at hb; subst hb; exact ⟨hW, hf.2⟩), h.ev.keep k (fun b hb => by simp at hb; subst hb; exact ⟨hf.1, .inr hP⟩)⟩
/-- append to what is answered -/
theorem AllM.back {v : Value} {a : GS} {b : An} (h : AllM W iss irs D1 D2 M win mss sb bm bl L n lc lo hi x w m g r e v24 G bb v28 lb lbr bkr ob v15 l lr itr) (hbb : hi ≤ bb) (hon : v28.ownBlock = none ∨ ((∃ s, e = .on s) ∧ (∀ b ∈ bkr, b ≠ .syn) ∧ (∀ it ∈ itr, it ≠ .syn) ∧ b ≠ .syn)) (own : gsK.Own w' bb 39 v (lb ++ [a])) (gr : w.grownBy w' v28.ownBlock) (hat : v.ownBlock = v28.ownBlock ∨ v.ownBlock = some w.heap.size) (ha : AnV iss irs win mss w a b) : AllM W iss irs D1 D2 M win mss sb bm bl L n lc lo hi x w' m g r e v24 G bb v (lb ++ [a]) (lbr ++ [a]) (bkr ++ [b]) ob v15 l lr itr := by
  have hlt := nB_lt h.got h.bo h.oo
  have hN : ∀ j ∈ nB [v24, v, v15], j < w.heap.size → j ∈ nB [v24, v28, v15] := fun j hj hl => by
    obtain ⟨u, hu, e1⟩ := mem_nB.1 hj
    simp only [List.mem_cons, List.not_mem_nil, or_false] at hu
    rcases hu with rfl | rfl | rfl
    · exact mem_nB.2 ⟨_, by simp, e1⟩
    · rcases hat with h1 | h1
      · exact mem_nB.2 ⟨v28, by simp, by rw [← h1]; exact e1⟩
      · rw [h1] at e1; cases e1; omega
    · exact mem_nB.2 ⟨_, by simp, e1⟩
  have hne' : ∀ j, v.ownBlock = some j → v15.ownBlock ≠ some j := fun j hj he => by
    rcases hat with h1 | h1
    · exact h.ne j (by rw [← h1]; exact hj) he
    · rw [h1] at hj; cases hj
      have := own_lt' h.oo he
      omega
  rcases hv : v28.ownBlock with _ | j
  · have k : Keeps [] w w' := by rw [hv] at gr; exact Keeps.grown0 gr
    have q := h.keep0 k
    refine ⟨q.mm, q.ev, q.got, own, q.br.append (RowV.one (ha.keepN k (fun b hb => by cases hb))), q.oo, (h.orr.imp (fun a b hb ha => ha.no hN)).imp (fun a b hb ha => ha.keepN k (fun b hb => by cases hb)), hne', h.zx, h.zr, h.zh⟩
  · rcases hon with h0 | ⟨hon, hpb, hpi, hb0⟩
    · rw [h0] at hv; cases hv
    · have k : Keeps [j] w w' := by rw [hv] at gr; exact Keeps.grown gr
      have hjm : j ∈ nB [v24, v28, v15] := mem_nB.2 ⟨v28, by simp, hv⟩
      have hjb := (World.ownsRow.lt (show w.ownsRow _ _ _ _ _ _ from h.bo) j hv).1
      have q := h.grows (v := v) (base := 0) hjm (by have := h.zh; omega) ⟨hon, by omega⟩ k
      refine ⟨q.1, q.2, ⟨h.got.1, own_keepsS h.got.2 k (fun i hi hs => by simp at hs; subst hs; exact (Typ.own h.got.2 hi).ne (Typ.own h.bo hv) (by decide) rfl)⟩, own, ?_, own_keepsS h.oo k (fun i hi hs => by simp at hs; subst hs; exact h.ne _ hv hi), ?_, hne', h.zx, h.zr, h.zh⟩
      · exact RowV.append (h.br.imp (fun a b hb ha => ha.keepN k (fun i hi => .inr (hpb b hb)))) (RowV.one (ha.keepN k (fun i hi => .inr hb0)))
      · exact h.orr.imp (fun a b hb ha => ha.step k (fun i hi => by simp at hi; subst hi; exact .inr ⟨hjm, hpi b hb⟩) hN)
/-- append to what is sent -/
theorem AllM.out {v : Value} {ln : List GS} {itn : List It} (h : AllM W iss irs D1 D2 M win mss sb bm bl L n lc lo hi x w m g r e v24 G bb v28 lb lbr bkr ob v15 l lr itr) (hob : W.heap.size ≤ ob) (hP : v15.ownBlock = none ∨ ((∃ s, e = .on s) ∧ (∀ j, v15.ownBlock = some j → ¬ (lo ≤ j ∧ j < hi)) ∧ (∀ b ∈ bkr, b ≠ .syn) ∧ (∀ it ∈ itr, it ≠ .syn) ∧ ∀ it ∈ itn, it ≠ .syn)) (own : gsK.Own w' ob 39 v (l ++ ln)) (gr : w.grownBy w' v15.ownBlock) (hat : v.ownBlock = v15.ownBlock ∨ v.ownBlock = some w.heap.size) (hn : RowV (ItV (D1 ++ D2) iss irs w (nB [v24, v28, v15])) ln itn) : AllM W iss irs D1 D2 M win mss sb bm bl L n lc lo hi x w' m g r e v24 G bb v28 lb lbr bkr ob v (l ++ ln) (lr ++ ln) (itr ++ itn) := by
  have hN : ∀ j ∈ nB [v24, v28, v], j < w.heap.size → j ∈ nB [v24, v28, v15] := fun j hj hl => by
    obtain ⟨u, hu, e1⟩ := mem_nB.1 hj
    simp only [List.mem_cons, List.not_mem_nil, or_false] at hu
    rcases hu with rfl | rfl | rfl
    · exact mem_nB.2 ⟨_, by simp, e1⟩
    · exact mem_nB.2 ⟨_, by simp, e1⟩
    · rcases hat with h1 | h1
      · exact mem_nB.2 ⟨v15, by simp, by rw [← h1]; exact e1⟩
      · rw [h1] at e1; cases e1; omega
  have hne' : ∀ j, v28.ownBlock = some j → v.ownBlock ≠ some j := fun j hj he => by
    rcases hat with h1 | h1
    · exact h.ne j hj (by rw [← h1]; exact he)
    · rw [h1] at he; cases he
      have := own_lt' h.bo hj
      omega
  rcases hv : v15.ownBlock with _ | j
  · have k : Keeps [] w w' := by rw [hv] at gr; exact Keeps.grown0 gr
    have q := h.keep0 k
    exact ⟨q.mm, q.ev, q.got, q.bo, q.br, own, RowV.append (h.orr.imp (fun a b hb ha => ha.step k (fun b hb => by cases hb) hN)) (hn.imp (fun a b hb ha => ha.step k (fun b hb => by cases hb) hN)), hne', h.zx, h.zr, h.zh⟩
  · rcases hP with h0 | ⟨hon, hp, hpb, hpi, hpn⟩
    · rw [h0] at hv; cases hv
    · have k : Keeps [j] w w' := by rw [hv] at gr; exact Keeps.grown gr
      have hjm : j ∈ nB [v24, v28, v15] := mem_nB.2 ⟨v15, by simp, hv⟩
      have hjb := (World.ownsRow.lt (show w.ownsRow _ _ _ _ _ _ from h.oo) j hv).1
      have q := h.grows (v := v) (base := 0) hjm (by omega) ⟨hon, hp j hv⟩ k
      exact ⟨q.1, q.2, ⟨h.got.1, own_keepsS h.got.2 k (fun i hi hs => by simp at hs; subst hs; exact (Typ.own h.got.2 hi).ne (Typ.own h.oo hv) (by decide) rfl)⟩, own_keepsS h.bo k (fun i hi hs => by simp at hs; subst hs; exact h.ne _ hi hv), h.br.imp (fun a b hb ha => ha.keepN k (fun i hi => .inr (hpb b hb))), own,
        RowV.append (h.orr.imp (fun a b hb ha => ha.step k (fun i hi => by simp at hi; subst hi; exact .inr ⟨hjm, hpi b hb⟩) hN)) (hn.imp (fun a b hb ha => ha.step k (fun i hi => by simp at hi; subst hi; exact .inr ⟨hjm, hpn b hb⟩) hN)), hne', h.zx, h.zr, h.zh⟩
/-- append to what the peer has got -/
theorem AllM.gots {v : Value} {G' : Nat} (h : AllM W iss irs D1 D2 M win mss sb bm bl L n lc lo hi x w m g r e v24 G bb v28 lb lbr bkr ob v15 l lr itr) (hon : ∃ s, e = .on s) (hpb : ∀ b ∈ bkr, b ≠ .syn) (hpi : ∀ it ∈ itr, it ≠ .syn) (own : GotV (D1 ++ D2) hi w' v G') (gr : w.grownBy w' v24.ownBlock) (hat : v.ownBlock = v24.ownBlock ∨ ∃ i, v.ownBlock = some i ∧ w.heap.size ≤ i) : AllM W iss irs D1 D2 M win mss sb bm bl L n lc lo hi x w' m g r e v G' bb v28 lb lbr bkr ob v15 l lr itr := by
  have hN : ∀ j ∈ nB [v, v28, v15], j < w.heap.size → j ∈ nB [v24, v28, v15] := fun j hj hl => by
    obtain ⟨u, hu, e1⟩ := mem_nB.1 hj
    simp only [List.mem_cons, List.not_mem_nil, or_false] at hu
    rcases hu with rfl | rfl | rfl
    · rcases hat with h1 | h1
      · exact mem_nB.2 ⟨v24, by simp, by rw [← h1]; exact e1⟩
      · obtain ⟨i, h1, h2⟩ := h1; rw [h1] at e1; cases e1; omega
    · exact mem_nB.2 ⟨_, by simp, e1⟩
    · exact mem_nB.2 ⟨_, by simp, e1⟩
  rcases hv : v24.ownBlock with _ | j
  · have k : Keeps [] w w' := by rw [hv] at gr; exact Keeps.grown0 gr
    have q := h.keep0 k
    exact ⟨q.mm, q.ev, own, q.bo, q.br, q.oo, h.orr.imp (fun a b hb ha => ha.step k (fun b hb => by cases hb) hN), h.ne, h.zx, h.zr, h.zh⟩
  · have k : Keeps [j] w w' := by rw [hv] at gr; exact Keeps.grown gr
    have hjm : j ∈ nB [v24, v28, v15] := mem_nB.2 ⟨v24, by simp, hv⟩
    have hjb := (h.got.2.lt j hv).1
    have q := h.grows (v := v) (base := 0) hjm (by have := h.zh; omega) ⟨hon, by omega⟩ k
    exact ⟨q.1, q.2, own, own_keepsS h.bo k (fun i hi hs => by simp at hs; subst hs; exact (Typ.own h.got.2 hv).ne (Typ.own h.bo hi) (by decide) rfl), h.br.imp (fun a b hb ha => ha.keepN k (fun i hi => .inr (hpb b hb))), own_keepsS h.oo k (fun i hi hs => by simp at hs; subst hs; exact (Typ.own h.got.2 hv).ne (Typ.own h.oo hi) (by decide) rfl),
      h.orr.imp (fun a b hb ha => ha.step k (fun i hi => by simp at hi; subst hi; exact .inr ⟨hjm, hpi b hb⟩) hN), h.ne, h.zx, h.zr, h.zh⟩
theorem AllM.re {lbr' : List GS} {bkr' : List An} {lr' : List GS} {itr' : List It} (h : AllM W iss irs D1 D2 M win mss sb bm bl L n lc lo hi x w m g r e v24 G bb v28 lb lbr bkr ob v15 l lr itr) (hb : RowV (AnV iss irs win mss w) lbr' bkr') (ho : RowV (ItV (D1 ++ D2) iss irs w (nB [v24, v28, v15])) lr' itr') : AllM W iss irs D1 D2 M win mss sb bm bl L n lc lo hi x w m g r e v24 G bb v28 lb lbr' bkr' ob v15 l lr' itr' :=
  ⟨h.mm, h.ev, h.got, h.bo, hb, h.oo, ho, h.ne, h.zx, h.zr, h.zh⟩
/-- other rows take the places of what is answered, and of what is sent -/
theorem AllM.rows {bb' ob' : Nat} {v28' v15' : Value} {lb' lbr' l' lr' : List GS} {bkr' : List An} {itr' : List It} (h : AllM W iss irs D1 D2 M win mss sb bm bl L n lc lo hi x w m g r e v24 G bb v28 lb lbr bkr ob v15 l lr itr) (hbo : gsK.Own w bb' 39 v28' lb') (hbr : RowV (AnV iss irs win mss w) lbr' bkr') (hoo : gsK.Own w ob' 39 v15' l') (horr : RowV (ItV (D1 ++ D2) iss irs w (nB [v24, v28', v15'])) lr' itr') (hne : ∀ j, v28'.ownBlock = some j → v15'.ownBlock ≠ some j) : AllM W iss irs D1 D2 M win mss sb bm bl L n lc lo hi x w m g r e v24 G bb' v28' lb' lbr' bkr' ob' v15' l' lr' itr' :=
  ⟨h.mm, h.ev, h.got, hbo, hbr, hoo, horr, hne, h.zx, h.zr, h.zh⟩
end
theorem RowV.drop1 {α β : Type} {P : α → β → Prop} {l : List α} {m : List β} {j : Nat} (h : RowV P (l.drop j) (m.drop j)) : RowV P (l.drop (j + 1)) (m.drop (j + 1)) := by
  refine ⟨by have := h.1; simp only [List.length_drop] at this ⊢; omega, fun i x y hx hy => h.2 (i + 1) x y ?_ ?_⟩
  · rw [List.getElem?_drop] at hx ⊢; rw [← hx]; congr 1; omega
  · rw [List.getElem?_drop] at hy ⊢; rw [← hy]; congr 1; omega
theorem RowV.head {α β : Type} {P : α → β → Prop} {l : List α} {m : List β} {j : Nat} (h : RowV P (l.drop j) (m.drop j)) {x : α} {y : β} (hx : l[j]? = some x) (hy : m[j]? = some y) : P x y :=
  h.2 0 x y (by rw [List.getElem?_drop]; exact hx) (by rw [List.getElem?_drop]; exact hy)
/-- what a segment must be for the law -/
def okI (T win G : Nat) : It → Prop
  | .syn => G = 0
  | .sk .ack => True
  | .sk (.pc a l) => 0 < l ∧ a + l ≤ T ∧ (l = 1 ∨ a + l ≤ G + win)
theorem okI.mono {T win G G' : Nat} {it : It} (h : okI T win G it) (hG : G ≤ G') (hs : it ≠ .syn) : okI T win G' it := by
  match it, h with
  | .syn, h => exact absurd rfl hs
  | .sk .ack, h => exact h
  | .sk (.pc a l), ⟨h1, h2, h3⟩ => exact ⟨h1, h2, by omega⟩
theorem drop_cons {α : Type} {l : List α} {j : Nat} {x : α} (h : l[j]? = some x) : l.drop j = x :: l.drop (j + 1) := by
  have hj := (List.getElem?_eq_some_iff.1 h).1
  rw [List.drop_eq_getElem_cons hj]
  have := (List.getElem?_eq_some_iff.1 h).2
  rw [this]
theorem sk_facts {D : List UInt8} {iss irs : Int} {w : World} {N : List Nat} {g : GS} {k : SK} {win G : Nat} (h : ItV D iss irs w N g (.sk k)) (ok : okI D.length win G (.sk k)) :
    ∃ a n, g.sp = 1 ∧ g.dp = 2 ∧ g.sq = (iss + 1 + (a : Nat)) % 4294967296 ∧ g.ak = addI irs 1 ∧ (bits .and .u8 g.fl 2 = 0) ∧ g.wn = 0 ∧ g.ug = 0 ∧ g.oA = none ∧ g.oN = 0 ∧ g.oC = 0 ∧ g.dN = n ∧ DatV w N g.dA n g.dC ((D.drop a).take n) ∧ a + n ≤ D.length ∧ (n ≤ 1 ∨ a + n ≤ G + win) ∧ ((k = .ack ∧ n = 0 ∧ a = 0) ∨ (k = .pc a n ∧ 0 < n)) := by
  match k, h, ok with
  | .ack, ⟨h1, h2, h3, h4, h5, h6, h7, h8, h9, h10, h11, h12, h13⟩, _ =>
    refine ⟨0, 0, h1, h2, by rw [h3]; unfold addI; simp, h4, by rw [h5]; decide, h6, h7, h8, h9, h10, h12, ?_, by omega, by omega, .inl ⟨rfl, rfl, rfl⟩⟩
    rw [h11, h13]
    simp only [List.take_zero]
    exact DatV.nil w N
  | .pc a n, ⟨h1, h2, h3, h4, h5, h6, h7, h8, h9, h10, h11, h12⟩, ⟨o1, o2, o3⟩ =>
    exact ⟨a, n, h1, h2, h3, h4, by rw [h5]; decide, h6, h7, h8, h9, h10, h11, by rw [← h11]; exact (by rw [h11] at h12 ⊢; exact h12), o2, by omega, .inr ⟨rfl, o1⟩⟩
theorem phI_sk {ls : List Bool} {G m g : Nat} {k : SK} {r : List It} {a n : Nat} (hl : lostB ls m = false) (hk : (k = .ack ∧ n = 0 ∧ a = 0) ∨ (k = .pc a n ∧ 0 < n)) :
    phI ls true G m g (.sk k :: r) = if 0 < n then (.ok (gotS G a n) :: (phI ls true (gotS G a n) (m + 1) g r).1, (phI ls true (gotS G a n) (m + 1) g r).2) else phI ls true G (m + 1) g r := by
  rcases hk with ⟨rfl, rfl, rfl⟩ | ⟨rfl, h⟩
  · rw [if_neg (by omega)]
    conv => lhs; unfold phI
    rw [hl]
    rfl
  · rw [if_pos h]
    conv => lhs; unfold phI
    rw [hl]
    rfl
theorem phI_lost {ls : List Bool} {op : Bool} {G m g : Nat} {it : It} {r : List It} (hl : lostB ls m = true) : phI ls op G m g (it :: r) = phI ls op G (m + 1) (g + 1) r := by
  conv => lhs; unfold phI
  rw [if_pos hl]
theorem phI_syn1 {ls : List Bool} {op : Bool} {G m g : Nat} {r : List It} (hl : lostB ls m = false) : phI ls op G m g (.syn :: r) = (.syn :: (phI ls true G (m + 1) g r).1, (phI ls true G (m + 1) g r).2) := by
  conv => lhs; unfold phI
  rw [hl]
  rfl
theorem gs_one {w : World} {b : Nat} {x : GS} {t : TypeId} {z : Nat × Nat} (h : w.heap[b]? = some (.cells (gsC x).toArray t z)) : gsK.At w (some ⟨b, 0, none⟩) [x] := EK.at_block h rfl
theorem got_take {D : List UInt8} {a n G : Nat} (h1 : a ≤ G) (h2 : G < a + n) : D.take G ++ ((((D.drop a).take n).drop (G - a)).take (n - (G - a))) = D.take (a + n) := by
  rw [List.drop_take, List.drop_drop, List.take_take, show a + (G - a) = G by omega, Nat.min_self, ← List.take_add]
  congr 1
  omega
theorem gotS_yes {G a n : Nat} (h1 : a ≤ G) (h2 : G < a + n) : gotS G a n = a + n := by unfold gotS; rw [if_pos ⟨h1, h2⟩]
theorem gotS_no {G a n : Nat} (h : ¬ (a ≤ G ∧ G < a + n)) : gotS G a n = G := by unfold gotS; rw [if_neg h]
/-- the peer's turn, in its midst -/
def PeerR (W : World) (iss irs : Int) (D1 D2 : List UInt8) (M win : Nat) (mss : Int) (sb bm bl : Nat) (L : Option Addr) (ls : List Bool) (lc lo hi x r : Nat) (e : ET) (sz : Nat) (v15 : Value) (l : List GS) (its : List It) (op0 : Bool) (G0 m0 g0 : Nat) (gk : Nat) (v24 v25 v28 v29 : Value) (wx : World) : Prop :=
  ∃ j op G m g bk lb, v29 = .int .i64 (j : Nat) ∧ j ≤ its.length ∧ gk = its.length - j ∧
    phI ls op0 G0 m0 g0 its = (bk ++ (phI ls op G m g (its.drop j)).1, (phI ls op G m g (its.drop j)).2) ∧ v25 = .bool op ∧
    AllM W iss irs D1 D2 M win mss sb bm bl L ls.length lc lo hi x wx m g r e v24 G sz v28 lb lb bk 0 v15 l (l.drop j) (its.drop j) ∧
    bk.length ≤ j ∧ m = m0 + j ∧ (bk = [] → v28 = .slice none 0 0) ∧ ((∃ s, e = .on s) → ∀ b ∈ bk, b ≠ .syn) ∧ (∀ it ∈ its.drop j, okI (D1 ++ D2).length win G it) ∧ (op0 = true → op = true) ∧ sz ≤ wx.heap.size ∧ (its = [.syn] → v24 = .slice none 0 0)
/-- at its end -/
def PeerE (W : World) (iss irs : Int) (D1 D2 : List UInt8) (M win : Nat) (mss : Int) (sb bm bl : Nat) (L : Option Addr) (ls : List Bool) (lc lo hi x r : Nat) (e : ET) (sz : Nat) (v15 : Value) (l : List GS) (its : List It) (op0 : Bool) (G0 m0 g0 : Nat) (v24 v25 v28 : Value) (wx : World) : Prop :=
  ∃ op G m g bk lb, phI ls op0 G0 m0 g0 its = (bk, op, G, m, g) ∧ v25 = .bool op ∧
    AllM W iss irs D1 D2 M win mss sb bm bl L ls.length lc lo hi x wx m g r e v24 G sz v28 lb lb bk 0 v15 l [] [] ∧
    bk.length ≤ its.length ∧ m = m0 + its.length ∧ sz ≤ wx.heap.size ∧ (its = [.syn] → v24 = .slice none 0 0)
end Go.Proofs.YtakgohocimlagaaGreat

namespace Go.Proofs.YtakgohocimlagaaGreat
open Go.RowKit Go.Lib
set_option linter.unusedVariables false
set_option linter.unusedSimpArgs false

/-- the code of the block of that number -/
noncomputable def findB (n : Nat) : Code → Option Code
  | .block k b => if k = n then some (.block k b) else findB n b
  | .seq a b => (findB n a).or (findB n b)
  | .cond _ a b => (findB n a).or (findB n b)
  | .loop b => findB n b
  | _ => none
noncomputable def blkS (n : Nat) : Code := (findB n (Tryz.f5.body.getD .skip)).getD .skip
/-- the law's frame -/
def actP (v0 v1 v2 v4 v13 v14 v15 v17 v18 v19 v20 v23 v24 v25 v26 v27 v28 v29 v34 : Value) (u : Nat → Value) : Act := ⟨[v0, v1, v2, u 3, v4, u 5, u 6, u 7, u 8, u 9, u 10, u 11, u 12, v13, v14, v15, u 16, v17, v18, v19, v20, u 21, u 22, v23, v24, v25, v26, v27, v28, v29, u 30, u 31, u 32, u 33, v34, u 35, u 36, u 37, u 38, u 39, u 40, u 41, u 42, u 43, u 44, u 45, u 46, u 47, u 48, u 49, u 50, u 51, u 52, u 53, u 54, u 55, u 56, u 57, u 58, u 59, u 60, u 61, u 62, u 63, u 64, u 65, u 66, u 67, u 68, u 69, u 70, u 71, u 72, u 73, u 74, u 75, u 76, u 77, u 78, u 79, u 80, u 81, u 82, u 83, u 84, u 85, u 86, u 87, u 88, u 89, u 90, u 91, u 92, u 93, u 94, u 95, u 96, u 97, u 98, u 99, u 100, u 101, u 102, u 103, u 104, u 105, u 106, u 107, u 108, u 109, u 110, u 111, u 112, u 113, u 114, u 115, u 116, u 117, u 118, u 119, u 120, u 121, u 122, u 123, u 124, u 125, u 126, u 127, u 128, u 129, u 130, u 131, u 132, u 133, u 134, u 135, u 136, u 137, u 138, u 139, u 140, u 141, u 142, u 143, u 144, u 145, u 146, u 147, u 148, u 149, u 150, u 151, u 152, u 153, u 154, u 155, u 156, u 157, u 158, u 159, u 160, u 161, u 162, u 163, u 164, u 165, u 166, u 167, u 168, u 169, u 170, u 171, u 172, u 173, u 174, u 175, u 176, u 177, u 178, u 179, u 180, u 181, u 182, u 183, u 184, u 185, u 186, u 187, u 188, u 189, u 190, u 191, u 192, u 193, u 194, u 195, u 196, u 197, u 198, u 199, u 200, u 201, u 202, u 203, u 204, u 205, u 206, u 207, u 208, u 209, u 210, u 211, u 212, u 213, u 214, u 215, u 216, u 217, u 218, u 219, u 220, u 221, u 222, u 223, u 224, u 225, u 226, u 227, u 228, u 229, u 230, u 231, u 232, u 233, u 234, u 235, u 236, u 237, u 238, u 239, u 240, u 241, u 242, u 243, u 244, u 245, u 246, u 247, u 248, u 249, u 250, u 251, u 252, u 253, u 254, u 255, u 256, u 257, u 258, u 259, u 260, u 261, u 262, u 263, u 264, u 265, u 266, u 267, u 268, u 269, u 270, u 271, u 272, u 273, u 274, u 275, u 276, u 277, u 278, u 279, u 280, u 281, u 282, u 283, u 284, u 285, u 286, u 287, u 288, u 289, u 290, u 291, u 292, u 293, u 294, u 295, u 296, u 297, u 298, u 299, u 300, u 301, u 302, u 303, u 304, u 305, u 306, u 307, u 308, u 309, u 310, u 311, u 312, u 313, u 314, u 315, u 316, u 317, u 318, u 319, u 320, u 321, u 322, u 323, u 324, u 325, u 326, u 327, u 328, u 329, u 330, u 331, u 332, u 333, u 334, u 335, u 336, u 337, u 338, u 339, u 340, u 341, u 342, u 343, u 344, u 345, u 346, u 347, u 348, u 349, u 350, u 351, u 352, u 353, u 354, u 355, u 356, u 357, u 358, u 359, u 360, u 361, u 362, u 363, u 364, u 365, u 366, u 367, u 368, u 369, u 370].toArray, []⟩
theorem map_range (l : List Value) : l = (List.range l.length).map (fun i => l.getD i undef) := by
  apply List.ext_getElem?
  intro i
  rw [List.getElem?_map]
  by_cases hi : i < l.length
  · rw [List.getElem?_range hi, List.getElem?_eq_getElem hi]
    simp [List.getD_eq_getElem?_getD, List.getElem?_eq_getElem hi]
  · rw [List.getElem?_eq_none (by omega), List.getElem?_eq_none (by simp; omega)]
    rfl
set_option maxRecDepth 100000 in
theorem actP_of (l : List Value) (hl : l.length = 371) : (⟨l.toArray, []⟩ : Act) = actP (l.getD 0 undef) (l.getD 1 undef) (l.getD 2 undef) (l.getD 4 undef) (l.getD 13 undef) (l.getD 14 undef) (l.getD 15 undef) (l.getD 17 undef) (l.getD 18 undef) (l.getD 19 undef) (l.getD 20 undef) (l.getD 23 undef) (l.getD 24 undef) (l.getD 25 undef) (l.getD 26 undef) (l.getD 27 undef) (l.getD 28 undef) (l.getD 29 undef) (l.getD 34 undef) (fun i => l.getD i undef) := by
  have h := map_range l
  rw [hl] at h
  unfold actP
  congr 2
theorem wp_cut2 {P : Program} {s : Code} {K : Act → World → Prop} {Q' : Exit → Act → World → Prop} {a : Act} {w : World} (R : Act → World → Prop) (first : s.wp P (Exit.then R Q') a w) (rest : ∀ a' w', R a' w' → K a' w') : s.wp P (Exit.then K Q') a w := by
  refine wp_mono first ?_
  intro e a' w' hq
  cases e with
  | normal => exact rest _ _ hq
  | exit id => exact hq
  | goto l => exact hq
  | ret => exact hq
  | panic ch => exact hq
  | outgrown => exact hq
end Go.Proofs.YtakgohocimlagaaGreat

