/-
  A host that is Up, takes a stream's pieces and sends nothing: Take, Copy, Got, Read, State by what is got. No condition but the sizes.
-/
import Derived.Test.YtgaidloicmkdaaaHsG
namespace Go.Proofs.Ytgaidloicmkdaaa
open Go.RowKit
set_option linter.unusedVariables false
set_option linter.unusedSimpArgs false

/-- s is Up, L bytes of S are got, R are read -/
structure Upp (S : List UInt8) (F1 ia : Int) (L R : Nat) (s : HS) : Prop where
  ok : s.Ok
  st : s.st = 4
  cl : s.closed = false
  sc : s.scale = 0
  scd : s.scaled = false
  lp : s.lp = 1
  rem : s.rem = 2
  una : s.una = ia
  nxt : s.nxt = ia
  iss : (s.iss + 1) % 4294967296 = ia
  out : s.out = []
  room : s.room = 100
  inn : s.inn = S.take L
  next : s.next = addI F1 L
  read : s.read = R
  lS : L ≤ S.length
  rL : R ≤ L
  wL : L ≤ R + 100
theorem Upp.ilen {S : List UInt8} {F1 ia : Int} {L R : Nat} {s : HS} (h : Upp S F1 ia L R s) : s.inn.length = L := by rw [h.inn, List.length_take, Nat.min_eq_left h.lS]
theorem Upp.free {S : List UInt8} {F1 ia : Int} {L R : Nat} {s : HS} (h : Upp S F1 ia L R s) : s.free = 100 - ((L : Int) - R) := by unfold HS.free; rw [h.room, h.ilen, h.read]
def ackU (F1 ia : Int) (L R : Nat) : Seg := ⟨1, 2, ia, addI F1 L, 16, 100 - ((L : Int) - R), 0, [], []⟩
theorem Upp.ack {S : List UInt8} {F1 ia : Int} {L R : Nat} {s : HS} (h : Upp S F1 ia L R s) : s.ack = ackU F1 ia L R := by
  have h1 := h.rL
  have h2 := h.wL
  unfold HS.ack ackU HS.told
  rw [h.lp, h.rem, h.nxt, h.next, h.scd, h.free]
  simp
  omega
theorem Upp.fin {S : List UInt8} {F1 ia : Int} {L R : Nat} {s : HS} (h : Upp S F1 ia L R s) : s.fin = ia := by
  have hb := h.ok.una
  rw [h.una] at hb
  obtain ⟨b0, b1⟩ := hb
  unfold HS.fin HS.bytes addI
  rw [h.cl, h.iss, h.out]
  simp
  omega
theorem Upp.still {S : List UInt8} {F1 ia : Int} {L R : Nat} {s : HS} (h : Upp S F1 ia L R s) : s.Still := .inr (by rw [h.nxt, h.fin])
theorem Upp.settle {S : List UInt8} {F1 ia : Int} {L R : Nat} {s : HS} (h : Upp S F1 ia L R s) (now : Int) : Upp S F1 ia L R (s.settle now) := by
  have ok := HS.settle_ok h.ok now
  have e : s.settle now = { s with set := false } := by unfold HS.settle; rw [if_pos (by rw [h.una, h.fin])]
  rw [e] at ok ⊢
  exact ⟨ok, h.st, h.cl, h.sc, h.scd, h.lp, h.rem, h.una, h.nxt, h.iss, h.out, h.room, h.inn, h.next, h.read, h.lS, h.rL, h.wL⟩
/-- a piece of the stream -/
def pieceG (S : List UInt8) (F1 ia : Int) (frm tt : Nat) : Seg := ⟨2, 1, addI F1 frm, ia, 16, 9, 0, [], (S.drop frm).take (tt - frm)⟩
theorem Upp.sees {S : List UInt8} {F1 ia : Int} {L R : Nat} {s : HS} (h : Upp S F1 ia L R s) {g : Seg} (gok : g.Ok) (hak : g.ak = ia) (now : Int) : Upp S F1 ia L R (s.sees g now false) := by
  have ok := HS.sees_ok h.ok gok now false
  have hl : lessI s.una g.ak = false := by rw [h.una, hak]; unfold lessI aheadI; simp
  have e : s.acked g now = s := by unfold HS.acked; rw [hl]; rfl
  unfold HS.sees at ok ⊢
  rw [e] at ok ⊢
  split
  · rename_i hu
    rw [if_pos hu] at ok
    exact ⟨ok, h.st, h.cl, h.sc, h.scd, h.lp, h.rem, h.una, h.nxt, h.iss, h.out, h.room, h.inn, h.next, h.read, h.lS, h.rL, h.wL⟩
  · exact h
theorem Upp.after {S : List UInt8} {F1 ia : Int} {L R : Nat} {s : HS} (h : Upp S F1 ia L R s) (hS : S.length ≤ 200) {frm tt : Nat} (h1 : frm ≤ tt) (h2 : tt ≤ S.length) (gok : (pieceG S F1 ia frm tt).Ok) (now : Int) (A : Option Addr) (c : Nat) : Upp S F1 ia (farL L R frm tt) R (s.after (pieceG S F1 ia frm tt) now A c) := by
  have ok := HS.after_ok h.ok gok now A c (by rw [h.ilen]; have := h.lS; omega)
  have hs := h.sees gok rfl now
  have hc := cut_far (F1 := F1) hS h1 h2 h.lS h.rL h.wL
  obtain ⟨f1, f2, f3⟩ := farL_le (frm := frm) h.lS h2 h.wL
  unfold HS.after HS.took at ok ⊢
  rw [h.free, hs.next] at ok ⊢
  generalize s.sees (pieceG S F1 ia frm tt) now false = s1 at *
  unfold pieceG at ok ⊢
  simp only at ok ⊢
  split
  · rename_i he
    rw [if_pos he] at ok hc
    refine ⟨ok, hs.st, hs.cl, hs.sc, hs.scd, hs.lp, hs.rem, hs.una, hs.nxt, hs.iss, hs.out, hs.room, ?_, ?_, hs.read, f2, by have := h.rL; omega, f3⟩
    · show s1.inn ++ _ = _
      rw [hc, hs.inn]
      exact take_far f1
    · show (addI F1 L + _) % 4294967296 = _
      rw [hc]
      have hl : ((S.drop L).take (farL L R frm tt - L)).length = farL L R frm tt - L := by simp; omega
      rw [hl]
      unfold addI
      omega
  · rename_i he
    rw [if_neg he] at hc
    rw [hc]
    exact hs

/-- what was got does not lie in block j0 -/
def Far (s : HS) (j0 : Option Nat) : Prop := 0 < s.inn.length → ∀ a, s.innA = some a → some a.block ≠ j0
def UpAt (w : World) (b : Nat) (S : List UInt8) (F1 ia : Int) (L R : Nat) (p : Bool) (j0 : Option Nat) : Prop := ∃ s, HostAt w b s ∧ Upp S F1 ia L R s ∧ (p = true → Far s j0)
section
variable {w w' : World} {b : Nat} {S : List UInt8} {F1 ia : Int} {L R : Nat} {p : Bool} {j0 : Option Nat}
theorem UpAt.keep0 (h : UpAt w b S F1 ia L R p j0) (k : Keeps [] w w') : UpAt w' b S F1 ia L R p j0 := by
  obtain ⟨s, h1, h2, h3⟩ := h
  exact ⟨s, h1.keep0 k, h2, h3⟩
theorem UpAt.lt (h : UpAt w b S F1 ia L R p j0) : b < w.heap.size := by obtain ⟨s, h1, _⟩ := h; exact h1.lt
theorem UpAt.no (h : UpAt w b S F1 ia L R p j0) : NoU8 w b := by obtain ⟨s, h1, _⟩ := h; exact h1.no
theorem UpAt.bd (h : UpAt w b S F1 ia L R p j0) : L ≤ S.length ∧ R ≤ L ∧ L ≤ R + 100 := by obtain ⟨s, _, h1, _⟩ := h; exact ⟨h1.lS, h1.rL, h1.wL⟩
/-- another host was changed -/
theorem UpAt.other {b' : Nat} (h : UpAt w b S F1 ia L R p j0) (k : Keeps [b'] w w') (hne : b ≠ b') (hno : NoU8 w b') : UpAt w' b S F1 ia L R p j0 := by
  obtain ⟨s, h1, h2, h3⟩ := h
  exact ⟨s, ⟨(k.block b h1.lt (by simpa using hne)).trans h1.head, h1.out.keep k hno, h1.inn.keep k hno⟩, h2, h3⟩
/-- the row j0 has grown: it lies in j1 now -/
theorem UpAt.grown {j1 : Option Nat} (h : UpAt w b S F1 ia L R true j0) (k : Keeps j0.toList w w') (hb : ∀ j, j0 = some j → b ≠ j) (h1 : j1 = j0 ∨ j1 = some w.heap.size) : UpAt w' b S F1 ia L R true j1 := by
  obtain ⟨s, hs, hu, hf⟩ := h
  have hf := hf rfl
  have hnb : b ∉ j0.toList := fun hm => hb b (by simpa using hm) rfl
  have ho : BytesV w' (.slice s.outA s.out.length s.outC) s.out := by
    obtain ⟨_, o1, o2⟩ := hs.out.form
    rw [hu.out]
    exact BytesV.empty _ (by omega)
  rcases Nat.eq_zero_or_pos s.inn.length with h0 | h0
  · refine ⟨s, ⟨(k.block b hs.lt hnb).trans hs.head, ho, ?_⟩, hu, fun _ hl => by omega⟩
    obtain ⟨_, o1, o2⟩ := hs.inn.form
    rw [List.eq_nil_of_length_eq_zero h0]
    exact BytesV.empty _ (by omega)
  · obtain ⟨g, o, hg, hc⟩ := hs.inn.get h0
    obtain ⟨_, o1, o2⟩ := hs.inn.form
    have hga := hf h0 _ hg
    have hgl : g < w.heap.size := lt_of_cell (hc 0 s.inn[0] (List.getElem?_eq_getElem h0))
    refine ⟨s, ⟨(k.block b hs.lt hnb).trans hs.head, ho, s.innA, s.innC, rfl, o1, o2, fun _ => ⟨g, o, hg, fun i x hx => cell_keeps k (hc i x hx) (fun hm => hga (by simpa using (show j0 = some g by simpa using hm).symm))⟩⟩, hu, fun _ _ a ha => ?_⟩
    have hag : a.block = g := by rw [hg] at ha; injection ha with ha; rw [← ha]
    rw [hag]
    rcases h1 with rfl | rfl
    · exact hga
    · intro e
      have : g = w.heap.size := by simpa using e
      omega
end
theorem after_inn (s : HS) (g : Seg) (now : Int) (A : Option Addr) (c : Nat) : (s.after g now A c).innA = A ∨ ((s.after g now A c).innA = s.innA ∧ (s.after g now A c).inn = s.inn) := by
  have h1 : (s.sees g now false).innA = s.innA ∧ (s.sees g now false).inn = s.inn := by unfold HS.sees HS.acked HS.edged HS.begin; split <;> split <;> exact ⟨rfl, rfl⟩
  unfold HS.after HS.took
  split
  · exact .inl rfl
  · exact .inr h1
theorem settle_inn (s : HS) (now : Int) : (s.settle now).innA = s.innA ∧ (s.settle now).inn = s.inn := by 
  unfold HS.settle HS.begin
  split
  · exact ⟨rfl, rfl⟩
  · split <;> exact ⟨rfl, rfl⟩
theorem Far.after {w W : World} {s : HS} {j0 : Option Nat} (h : Far s j0) (g : Seg) (now : Int) (A : Option Addr) (c : Nat) (hj : ∀ j, j0 = some j → j < w.heap.size) (hz : w.heap.size ≤ W.heap.size) (hA : ∀ a, A = some a → W.heap.size ≤ a.block) : Far ((s.after g now A c).settle now) j0 := by
  obtain ⟨e1, e2⟩ := settle_inn (s.after g now A c) now
  intro hl a ha e
  rw [e1] at ha
  rw [e2] at hl
  rcases after_inn s g now A c with h1 | ⟨h1, h2⟩
  · rw [h1] at ha
    have := hA a ha
    have := hj a.block e.symm
    omega
  · rw [h1] at ha
    rw [h2] at hl
    exact h hl a ha e
set_option maxRecDepth 100000 in
theorem up_take {w : World} {b : Nat} {S : List UInt8} {F1 ia : Int} {L R : Nat} {p : Bool} {j0 : Option Nat} (h : UpAt w b S F1 ia L R p j0) (hj : ∀ j, j0 = some j → j < w.heap.size) (hS : S.length ≤ 200) (hF : U32 F1) {frm tt : Nat} (h1 : frm ≤ tt) (h2 : tt ≤ S.length) (A2 : Option Addr) (c2 : Nat) (hd : BytesV w (.slice A2 (tt - frm) c2) ((S.drop frm).take (tt - frm))) (now : Int) (n0 : 0 ≤ now) (nn : now ≤ 4398046511104) :
    Calls Try.prog 10 #[.pointer (some ⟨b, 0, none⟩), .agg #[.int .u16 2, .int .u16 1, .int .u32 (addI F1 frm), .int .u32 ia, .int .u8 16, .int .u16 9, .int .u16 0, .slice none 0 0, .slice A2 (tt - frm) c2], .int .u64 now] w fun e w' =>
      ∃ v, e = .returned (.tuple #[v, .int .i64 0]) ∧ (UpAt w' b S F1 ia (gotL F1 L R frm tt) R p j0 ∧ ToldH w' v (!accL F1 L R frm tt || decide (frm < tt)) (ackU F1 ia (gotL F1 L R frm tt) R)) ∧ Keeps [b] w w' := by
  obtain ⟨s, hs, hu, hfar⟩ := h
  have hlen : ((S.drop frm).take (tt - frm)).length = tt - frm := by simp; omega
  have hia : U32 ia := by have := hu.ok.una; rw [hu.una] at this; exact this
  have gok : (pieceG S F1 ia frm tt).Ok := ⟨by simp [pieceG], by simp [pieceG], addI_bd _ _, hia, by simp [pieceG], by simp [pieceG], by simp [pieceG], by show ((S.drop frm).take (tt - frm)).length ≤ _; rw [hlen]; omega⟩
  have hlI : lenI (pieceG S F1 ia frm tt) = ((tt - frm : Nat) : Int) := by
    unfold lenI pieceG
    simp only [hlen]
    have e1 : has 16 2 = false := by decide
    have e2 : has 16 1 = false := by decide
    rw [e1, e2]
    simp [bI]
  have hacc : acceptI (pieceG S F1 ia frm tt).sq (lenI (pieceG S F1 ia frm tt)) s.next s.free = accL F1 L R frm tt := by rw [hlI, hu.next, hu.free]; rfl
  have hnx : lessI s.nxt (pieceG S F1 ia frm tt).ak = false := by rw [hu.nxt]; unfold lessI aheadI pieceG; simp
  have hdl : (pieceG S F1 ia frm tt).data.length ≤ 100000 := by show ((S.drop frm).take (tt - frm)).length ≤ _; rw [hlen]; omega
  have hsg : SegAt w (pieceG S F1 ia frm tt) (.slice none 0 0) (.slice A2 (pieceG S F1 ia frm tt).data.length c2) := ⟨OptsV.nil _, by show BytesV w (.slice A2 ((S.drop frm).take (tt - frm)).length c2) _; rw [hlen]; exact hd⟩
  obtain ⟨P, hP⟩ : ∃ P : Value → World → Prop, P = fun v w' => UpAt w' b S F1 ia (gotL F1 L R frm tt) R p j0 ∧ ToldH w' v (!accL F1 L R frm tt || decide (frm < tt)) (ackU F1 ia (gotL F1 L R frm tt) R) := ⟨_, rfl⟩
  have key : ∀ W, Keeps [] w W → HostAt W b s → SegAt W (pieceG S F1 ia frm tt) (.slice none 0 0) (.slice A2 (pieceG S F1 ia frm tt).data.length c2) → Calls Try.prog 35 #[.pointer (some ⟨b, 0, none⟩), segV (pieceG S F1 ia frm tt) (.slice none 0 0) (.slice A2 (pieceG S F1 ia frm tt).data.length c2), .int .u64 now] W fun e w' => ∃ v, e = .returned v ∧ P v w' ∧ Keeps [b] W w' := by
    intro W hZ hW hG
    cases ha : accL F1 L R frm tt
    · rw [ha] at hacc
      refine (hopen_ack_far hW hu.ok _ gok none A2 0 0 c2 rfl hu.st hdl now hacc).mono fun e w' ⟨v, he, ho, hh, hk⟩ => ⟨v, he, ?_, hk⟩
      have e1 : gotL F1 L R frm tt = L := by unfold gotL; rw [ha]; rfl
      rw [hP]
      simp only
      rw [e1, ha]
      refine ⟨⟨s, hh, hu, hfar⟩, .inr ⟨rfl, ?_⟩⟩
      rw [← hu.ack]
      exact ho
    · rw [ha] at hacc
      have e1 : gotL F1 L R frm tt = farL L R frm tt := by unfold gotL; rw [ha]; rfl
      have hua := fun A c => hu.after hS h1 h2 gok now A c
      refine hopen_ackF hW hu.ok hu.cl hu.sc hu.st _ gok none A2 0 0 c2 hG rfl now n0 nn hacc hnx hdl P (fun A c => HS.settle_ok (hua A c).ok now) (fun W' A c hW' hA' => ?_)
      have hfa : p = true → Far ((s.after (pieceG S F1 ia frm tt) now A c).settle now) j0 := fun hp => (hfar hp).after (w := w) (W := W) _ now A c hj hZ.size (fun a ha => (hA' a ha).1)
      refine (hsend_none hW' (hua A c).ok now n0 nn (by rw [(hua A c).st]; decide) (by rw [(hua A c).st]; decide) (hua A c).still).mono fun e w' ⟨he, hh, hk⟩ => ⟨none, 0, 0, he, hk, ?_⟩
      have hup : UpAt w' b S F1 ia (gotL F1 L R frm tt) R p j0 := by rw [e1]; exact ⟨_, hh, (hua A c).settle now, hfa⟩
      by_cases hz : frm < tt
      · refine .inr (.inl ⟨rfl, by show 0 < ((S.drop frm).take (tt - frm)).length; rw [hlen]; omega, hh, fun v w'' ho hh2 => ?_⟩)
        rw [hP]
        refine ⟨by rw [e1]; exact ⟨_, hh2, (hua A c).settle now, hfa⟩, .inr ⟨by simp [hz], ?_⟩⟩
        rw [e1, ← ((hua A c).settle now).ack]
        exact ho
      · refine .inl ⟨rfl, ?_, ?_⟩
        · show (S.drop frm).take (tt - frm) = []
          rw [show tt - frm = 0 by omega]; rfl
        · rw [hP]
          exact ⟨hup, .inl ⟨by rw [ha]; simp [hz], rfl⟩⟩
  have HT := htake_openF hs (by rw [hu.st]; decide) (by rw [hu.st]; decide) (pieceG S F1 ia frm tt) none A2 0 0 (pieceG S F1 ia frm tt).data.length c2 hsg now P key
  have e2 : segV (pieceG S F1 ia frm tt) (.slice none 0 0) (.slice A2 (pieceG S F1 ia frm tt).data.length c2) = .agg #[.int .u16 2, .int .u16 1, .int .u32 (addI F1 frm), .int .u32 ia, .int .u8 16, .int .u16 9, .int .u16 0, .slice none 0 0, .slice A2 (tt - frm) c2] := by
    unfold segV pieceG
    simp only [hlen]
  rw [e2, hP] at HT
  exact HT
theorem up_copy {w : World} {b : Nat} {S : List UInt8} {F1 ia : Int} {L R : Nat} {p : Bool} {j0 : Option Nat} (h : UpAt w b S F1 ia L R p j0) (hS : S.length ≤ 200) :
    Calls Try.prog 15 #[.pointer (some ⟨b, 0, none⟩)] w fun e w' => ∃ b', e = .returned (.pointer (some ⟨b', 0, none⟩)) ∧ w.heap.size ≤ b' ∧ UpAt w' b' S F1 ia L R false none ∧ Keeps [] w w' := by
  obtain ⟨s, hs, hu, _⟩ := h
  refine (hcopy_any hs hu.ok (by rw [hu.st]; decide) (by rw [hu.out]; decide) (by rw [hu.ilen]; have := hu.lS; omega)).mono fun e w' ⟨b', Ao, co, Ai, ci, he, hz, hh, hk⟩ => ⟨b', he, hz, ⟨_, hh, ?_, fun h => by cases h⟩, hk⟩
  have o := hu.ok
  exact ⟨⟨o.lp, o.iss, o.smss, o.sscale, o.room, o.rto, o.tries, o.rem, o.una, o.nxt, o.irs, o.next, o.edge, o.wl1, o.wl2, o.out, o.inn, o.read, o.free, o.mss, o.scale, o.scaled⟩, hu.st, hu.cl, hu.sc, hu.scd, hu.lp, hu.rem, hu.una, hu.nxt, hu.iss, hu.out, hu.room, hu.inn, hu.next, hu.read, hu.lS, hu.rL, hu.wL⟩
theorem up_got {w : World} {b : Nat} {S : List UInt8} {F1 ia : Int} {L R : Nat} {p : Bool} {j0 : Option Nat} (h : UpAt w b S F1 ia L R p j0) (hS : S.length ≤ 200) :
    Calls Try.prog 17 #[.pointer (some ⟨b, 0, none⟩)] w fun e w' => ∃ A c, e = .returned (.slice A L c) ∧ BytesV w' (.slice A L c) (S.take L) ∧ Keeps [] w w' := by
  obtain ⟨s, hs, hu, _⟩ := h
  refine (hgot_any hs (by rw [hu.st]; decide) (by rw [hu.ilen]; have := hu.lS; omega)).mono fun e w' ⟨A, c, he, hb, hk⟩ => ?_
  rw [hu.ilen] at he hb
  rw [hu.inn] at hb
  exact ⟨A, c, he, hb, hk⟩
theorem up_read {w : World} {b : Nat} {S : List UInt8} {F1 ia : Int} {L R : Nat} {p : Bool} {j0 : Option Nat} (h : UpAt w b S F1 ia L R p j0) (hS : S.length ≤ 200) (n m : Nat) (hn : n ≤ 1000) (hm : m = min n (L - R)) :
    Calls Try.prog 18 #[.pointer (some ⟨b, 0, none⟩), .int .i64 n] w fun e w' => ∃ A c v2, e = .returned (.tuple #[.slice A m c, v2]) ∧ BytesV w' (.slice A m c) ((S.drop R).take m) ∧ UpAt w' b S F1 ia L (R + m) p j0 ∧ Keeps [b] w w' := by
  obtain ⟨s, hs, hu, hfar⟩ := h
  have h1 := hu.rL
  have h2 := hu.wL
  have h3 := hu.lS
  have hR := hu.read
  have hI := hu.ilen
  have o := hu.ok
  have o2 : ({ s with read := ((R + m : Nat) : Int) } : HS).Ok := ⟨o.lp, o.iss, o.smss, o.sscale, o.room, o.rto, o.tries, o.rem, o.una, o.nxt, o.irs, o.next, o.edge, o.wl1, o.wl2, o.out, o.inn, by simp only; rw [hI]; omega, by unfold HS.free; simp only; rw [hI, hu.room]; omega, o.mss, o.scale, o.scaled⟩
  refine (hread_any hs o hu.st hu.scd R n m hR hn (by rw [hI]; omega) (by rw [hI]; exact hm) o2).mono fun e w' ⟨v, v2, he, hb, hh, hk⟩ => ?_
  have hb2 : (s.inn.drop R).take m = (S.drop R).take m := by
    rw [hu.inn, List.drop_take, List.take_take, Nat.min_eq_left (by omega)]
  rw [hb2] at hb
  obtain ⟨A, c, rfl⟩ := hb.slice
  have hl : ((S.drop R).take m).length = m := by simp; omega
  rw [hl] at he hb
  exact ⟨A, c, v2, he, hb, ⟨_, hh, ⟨o2, hu.st, hu.cl, hu.sc, hu.scd, hu.lp, hu.rem, hu.una, hu.nxt, hu.iss, hu.out, hu.room, hu.inn, hu.next, rfl, h3, by omega, by omega⟩, hfar⟩, hk⟩
theorem up_state {w : World} {b : Nat} {S : List UInt8} {F1 ia : Int} {L R : Nat} {p : Bool} {j0 : Option Nat} (h : UpAt w b S F1 ia L R p j0) :
    Calls Try.prog 11 #[.pointer (some ⟨b, 0, none⟩)] w fun e w' => e = .returned (.int .i64 4) ∧ w = w' := by
  obtain ⟨s, hs, hu, _⟩ := h
  have := hstate_any hs (by rw [hu.st]; decide)
  rw [hu.st] at this
  exact this
end Go.Proofs.Ytgaidloicmkdaaa
