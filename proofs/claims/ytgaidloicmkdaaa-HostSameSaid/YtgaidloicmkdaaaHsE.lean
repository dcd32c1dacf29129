/-
  A host that dialled and takes the SYN-ACK is Up; the pieces of HostSame as they lie in memory. No condition but the ranges.
-/
import Derived.Test.YtgaidloicmkdaaaHsC
namespace Go.Proofs.Ytgaidloicmkdaaa
open Go.RowKit
set_option linter.unusedVariables false
set_option linter.unusedSimpArgs false

def s0L (iss : Int) : HS := ((suL iss).host 2 2).begin 0
theorem s0L_ok {iss : Int} (h : U32 iss) : (s0L iss).Ok := HS.begin_ok (SU.host_ok (suL_ok h) 2 2 ⟨by decide, by decide⟩) 0
def synG (iss irs : Int) : Seg := ⟨2, 1, irs, (iss + 1) % 4294967296, 18, 9, 0, [], []⟩
theorem synG_ok {iss irs : Int} (h : U32 irs) : (synG iss irs).Ok := ⟨by simp [synG], by simp [synG], h, ⟨by simp only [synG]; omega, by simp only [synG]; omega⟩, by simp [synG], by simp [synG], by simp [synG], by simp [synG]⟩
theorem up_first {iss irs : Int} (u0 : U32 iss) (u1 : U32 irs) (S : List UInt8) : Upp S ((irs + 1) % 4294967296) ((iss + 1) % 4294967296) 0 0 ((s0L iss).peer (synG iss irs) 536).upp :=
  ⟨HS.upp_ok (HS.peer_ok (s0L_ok u0) (synG_ok u1) ⟨by decide, by decide⟩), rfl, rfl, rfl, rfl, rfl, rfl, rfl, rfl, rfl, rfl, rfl, by rw [List.take_zero]; rfl, by show (irs + 1) % 4294967296 = _; unfold addI; omega, rfl, Nat.zero_le _, Nat.le_refl _, by omega⟩
theorem up_start {w : World} {b : Nat} {iss irs : Int} (h : HostAt w b (s0L iss)) (u0 : U32 iss) (u1 : U32 irs) (S : List UInt8) (j0 : Option Nat) :
    Calls Try.prog 10 #[.pointer (some ⟨b, 0, none⟩), .agg #[.int .u16 2, .int .u16 1, .int .u32 irs, .int .u32 ((iss + 1) % 4294967296), .int .u8 18, .int .u16 9, .int .u16 0, .slice none 0 0, .slice none 0 0], .int .u64 0] w fun e w' =>
      ∃ v, e = .returned (.tuple #[v, .int .i64 0]) ∧ UpAt w' b S ((irs + 1) % 4294967296) ((iss + 1) % 4294967296) 0 0 true j0 ∧ Keeps [b] w w' :=
  htake_syn h rfl (synG iss irs) none none 0 0 0 0 ⟨OptsV.nil _, BytesV.nil _⟩ 0 (fun v w' => UpAt w' b S ((irs + 1) % 4294967296) ((iss + 1) % 4294967296) 0 0 true j0)
    (fun W hW hG => (hsynSent_plain hW (s0L_ok u0) rfl rfl (synG iss irs) (synG_ok u1) _ _ _ _ _ _ hG rfl 536 (Or.inr ⟨rfl, rfl⟩) rfl rfl 0 (by decide) (by decide) (up_first u0 u1 S).still).mono fun e w' ⟨v, he, ho, hh, hk⟩ => ⟨v, he, ⟨_, hh, (up_first u0 u1 S).settle 0, fun _ hl => absurd hl (by rw [((up_first u0 u1 S).settle 0).ilen]; exact Nat.lt_irrefl 0)⟩, hk⟩)

set_option maxHeartbeats 400000 in
theorem hgot_own {w : World} {b : Nat} {s : HS} (h : HostAt w b s) (h1 : 1 ≤ s.st) (hl : s.inn.length ≤ 1073741824) :
    Calls Try.prog 17 #[.pointer (some ⟨b, 0, none⟩)] w fun e w' => ∃ A c, e = .returned (.slice A s.inn.length c) ∧ (∀ a, A = some a → w.heap.size ≤ a.block) ∧ BytesV w' (.slice A s.inn.length c) s.inn ∧ Keeps [] w w' := by
  have HN := Lib.hid (hnone_no h h1)
  have HC := Lib.hid (bclone_own w s.innA s.inn.length s.innC s.inn h.inn (by omega))
  have c16 := h.c16
  clear h
  go_enter Try.func17, Try.ntmps17
  go_wp2_with fail
  refine HN.out.mono ?_
  rintro e w1 ⟨rfl, rfl⟩
  go_wp2_with fail
  refine HC.out.mono ?_
  rintro e w1 ⟨v, rfl, o1, k1⟩
  obtain ⟨A, c, rfl⟩ := own_slice o1
  have F1 := Lib.hid (show ∀ a, A = some a → w.heap.size ≤ a.block from fun a ha => (o1.lt a.block (by rw [ha]; rfl)).1)
  have B1 := Lib.hid (BytesV.of_own o1)
  have K1 := Lib.hid k1
  clear o1 k1
  go_wp2_with fail
  go_ret
  exact ⟨A, c, rfl, F1.out, B1.out, K1.out⟩
theorem up_gotF {w : World} {b : Nat} {S : List UInt8} {F1 ia : Int} {L R : Nat} {p : Bool} {j0 : Option Nat} (h : UpAt w b S F1 ia L R p j0) (hS : S.length ≤ 200) :
    Calls Try.prog 17 #[.pointer (some ⟨b, 0, none⟩)] w fun e w' => ∃ A c, e = .returned (.slice A L c) ∧ (∀ a, A = some a → w.heap.size ≤ a.block) ∧ BytesV w' (.slice A L c) (S.take L) ∧ Keeps [] w w' := by
  obtain ⟨s, hs, hu, _⟩ := h
  refine (hgot_own hs (by rw [hu.st]; decide) (by rw [hu.ilen]; have := hu.lS; omega)).mono fun e w' ⟨A, c, he, hf, hb, hk⟩ => ?_
  rw [hu.ilen] at he hb
  rw [hu.inn] at hb
  exact ⟨A, c, he, hf, hb, hk⟩
theorem BytesV.keepF {w w' : World} {A : Option Addr} {n c : Nat} {l : List UInt8} {T : List Nat} (h : BytesV w (.slice A n c) l) (k : Keeps T w w') (hT : ∀ a, A = some a → a.block ∉ T) : BytesV w' (.slice A n c) l := by
  obtain ⟨h1, h2, h3⟩ := h.form
  subst h1
  refine ⟨A, c, rfl, h2, h3, fun hp => ?_⟩
  obtain ⟨g, o, rfl, hc⟩ := h.get hp
  exact ⟨g, o, rfl, fun i x hx => cell_keeps k (hc i x hx) (hT ⟨g, o, none⟩ rfl)⟩
theorem cat_bytes (a b c : List UInt8) (h : a ++ b = c) : (⟨a.toArray⟩ : ByteArray) ++ (⟨b.toArray⟩ : ByteArray) = ⟨c.toArray⟩ := by
  subst h
  apply ByteArray.ext
  simp [ByteArray.data_append]
/-- Pairs of bytes, as they lie in memory. -/
def PairsE (W : World) (a0 : Option Addr) (len : Nat) : Prop :=
  len = 0 ∨ ∃ blk off, a0 = some ⟨blk, off, none⟩ ∧ ∀ i, i < len → ∃ x y : Int, 0 ≤ x ∧ x ≤ 255 ∧ 0 ≤ y ∧ y ≤ 255 ∧ W.cell? ⟨blk, off + i * 2, none⟩ = some (.int .u8 x) ∧ W.cell? ⟨blk, off + i * 2 + 1, none⟩ = some (.int .u8 y)
theorem PairsE.at {W : World} {q : Option Addr} {len : Nat} (h : PairsE W q len) {i : Nat} (hi : i < len) : ∃ blk off, q = some ⟨blk, off, none⟩ ∧ ∃ x y : Int, 0 ≤ x ∧ x ≤ 255 ∧ 0 ≤ y ∧ y ≤ 255 ∧ W.cell? ⟨blk, off + i * 2, none⟩ = some (.int .u8 x) ∧ W.cell? ⟨blk, off + i * 2 + 1, none⟩ = some (.int .u8 y) := by
  rcases h with h | ⟨blk, off, rfl, h⟩
  · omega
  · exact ⟨blk, off, rfl, h i hi⟩
theorem BytesV.upto {w : World} {A : Option Addr} {n c : Nat} {l : List UInt8} (h : BytesV w (.slice A n c) l) {k : Nat} (hk : k ≤ n) : BytesV w (.slice A k c) (l.take k) := by
  obtain ⟨h1, h2, h3⟩ := h.form
  subst h1
  have hlt : (l.take k).length = k := by rw [List.length_take, Nat.min_eq_left hk]
  refine ⟨A, c, by rw [hlt], by rw [hlt]; omega, by omega, fun hp => ?_⟩
  rw [hlt] at hp
  obtain ⟨g, o, rfl, hc⟩ := h.get (by omega)
  refine ⟨g, o, rfl, fun i x hx => ?_⟩
  rw [List.getElem?_take] at hx
  split at hx
  · exact hc i x hx
  · cases hx
theorem wpAnyH_mono {P : Program} {md : Region.Mode} {ops : Array Oper} {Q : Exit → Act → World → Prop} {S S' : World → Prop} (hS : ∀ W, S' W → S W) : ∀ (fuel : Nat) (listed : Array Bool) (a : Act) (w : World), wpAnyH P md ops Q S' fuel listed a w → wpAnyH P md ops Q S fuel listed a w
  | 0, _, _, _, h => h
  | fuel + 1, _, _, _, h => ⟨h.1, fun i hi => wpOp_mono (fun a' w' h' => ⟨hS _ h'.1, wpAnyH_mono hS fuel _ a' w' h'.2⟩) (h.2 i hi)⟩
theorem ToldH.ne {w : World} {v : Value} {is : Bool} {g : Seg} {b : Nat} {S : List UInt8} {F1 ia : Int} {L R : Nat} {p : Bool} {j0 : Option Nat} (h : ToldH w v is g) (hb : UpAt w b S F1 ia L R p j0) : ∀ A n c, v = .slice (some A) n c → A.block ≠ b := by
  intro A n c e hab
  rcases h with ⟨_, rfl⟩ | ⟨_, r, c', rfl, _, _, hc, _⟩
  · cases e
  · injection e with e _ _
    injection e with e
    subst e
    simp only at hab
    subst hab
    obtain ⟨s, hs, _⟩ := hb
    have h1 := hc 1 _ rfl
    rw [hs.c1] at h1
    cases h1
theorem own_keepsS {w w' : World} {B e sz n : Nat} {v : Value} {xs : List Value} {S : List Nat} (h : w.ownsRow B e sz v n xs) (k : Keeps S w w') (hS : ∀ j, v.ownBlock = some j → j ∉ S) : w'.ownsRow B e sz v n xs := by
  refine ⟨h.1, ?_⟩
  rcases h.2 with h0 | ⟨g, cap, cur, rfl, hb, hg, hr⟩
  · exact .inl h0
  · exact .inr ⟨g, cap, cur, rfl, hb, (k.block g (lt_of_block hg) (hS g rfl)).trans hg, hr⟩
/-- the loop's state -/
structure HsAt (W : World) (S : List UInt8) (F1 ia iss : Int) (sb : Nat) (wr : World) (b L R : Nat) (rv : Value) : Prop where
  up : UpAt wr b S F1 ia L R true rv.ownBlock
  own : wr.ownsRow W.heap.size 5 1 rv R ((S.take R).map u8V)
  hsb : wr.heap[sb]? = some (.cells #[.int .u16 1, .int .u32 iss, .int .u16 1000, .int .i64 (-1), .bool false, .int .i64 100, .int .u64 4, .int .i64 10] 36 (0, 0))
  rb : ∀ j, rv.ownBlock = some j → j ≠ b ∧ j ≠ sb
  bsb : b ≠ sb
  zb : W.heap.size ≤ b
  zs : W.heap.size ≤ sb
  kp : Keeps [] W wr
theorem HsAt.rlt {W : World} {S : List UInt8} {F1 ia iss : Int} {sb : Nat} {wr : World} {b L R : Nat} {rv : Value} (h : HsAt W S F1 ia iss sb wr b L R rv) : ∀ j, rv.ownBlock = some j → j < wr.heap.size := fun j hj => (h.own.lt j hj).2
theorem HsAt.keep0 {W : World} {S : List UInt8} {F1 ia iss : Int} {sb : Nat} {wr w' : World} {b L R : Nat} {rv : Value} (h : HsAt W S F1 ia iss sb wr b L R rv) (k : Keeps [] wr w') : HsAt W S F1 ia iss sb w' b L R rv :=
  ⟨h.up.keep0 k, own_keeps h.own k, (k.block _ (lt_of_block h.hsb) (by simp)).trans h.hsb, h.rb, h.bsb, h.zb, h.zs, h.kp.trans k⟩
section
variable {W : World} {S : List UInt8} {F1 ia iss : Int} {sb : Nat} {wr w' : World} {b L R : Nat} {rv : Value}
theorem HsAt.read (h : HsAt W S F1 ia iss sb wr b L R rv) (k : Keeps [b] wr w') : w'.ownsRow W.heap.size 5 1 rv R ((S.take R).map u8V) ∧ w'.heap[sb]? = some (.cells #[.int .u16 1, .int .u32 iss, .int .u16 1000, .int .i64 (-1), .bool false, .int .i64 100, .int .u64 4, .int .i64 10] 36 (0, 0)) ∧ Keeps [] W w' :=
  ⟨own_keepsS h.own k (fun j hj => by simpa using (h.rb j hj).1), (k.block sb (lt_of_block h.hsb) (by simpa using h.bsb.symm)).trans h.hsb, (h.kp.mono (T := [b]) (by simp) |>.trans k).fresh (fun j hj hlt => by have h1 := h.zb; have h2 : j = b := (by simpa using hj); omega)⟩
theorem HsAt.took (h : HsAt W S F1 ia iss sb wr b L R rv) {L' : Nat} (k : Keeps [b] wr w') (hu : UpAt w' b S F1 ia L' R true rv.ownBlock) : HsAt W S F1 ia iss sb w' b L' R rv :=
  ⟨hu, (h.read k).1, (h.read k).2.1, h.rb, h.bsb, h.zb, h.zs, (h.read k).2.2⟩
theorem HsAt.other {b' : Nat} (h : HsAt W S F1 ia iss sb wr b L R rv) (k : Keeps [b'] wr w') (hbb : b ≠ b') (hno : NoU8 wr b') (hz : W.heap.size ≤ b') (hs : sb ≠ b') (hr : ∀ j, rv.ownBlock = some j → j ≠ b') : HsAt W S F1 ia iss sb w' b L R rv :=
  ⟨h.up.other k hbb hno, own_keepsS h.own k (fun j hj => by simpa using hr j hj), (k.block sb (lt_of_block h.hsb) (by simpa using hs)).trans h.hsb, h.rb, h.bsb, h.zb, h.zs, (h.kp.mono (T := [b']) (by simp) |>.trans k).fresh (fun j hj hlt => by have h2 : j = b' := (by simpa using hj); omega)⟩
/-- what was read is appended -/
theorem HsAt.grow (h : HsAt W S F1 ia iss sb wr b L R rv) {w1 w2 : World} {m : Nat} (k1 : Keeps [b] wr w1) (hu : UpAt w1 b S F1 ia L (R + m) true rv.ownBlock) {v2 : Value} (hg : w1.grownBy w2 rv.ownBlock) (hat : v2.ownBlock = rv.ownBlock ∨ v2.ownBlock = some w1.heap.size)
    (ho : w2.ownsRow W.heap.size 5 1 v2 (R + m) ((S.take (R + m)).map u8V)) : HsAt W S F1 ia iss sb w2 b L (R + m) v2 := by
  obtain ⟨o1, s1, p1⟩ := h.read k1
  have kB : Keeps rv.ownBlock.toList w1 w2 := ⟨hg.os, hg.tape, hg.output, hg.size, fun j hj hn => hg.block j hj (fun e => hn (by simp [← e]))⟩
  have hlb := hu.lt
  have hls := lt_of_block s1
  refine ⟨hu.grown kB (fun j hj => (h.rb j hj).1.symm) hat, ho, (kB.block sb hls (fun hm => (h.rb sb (by simpa using hm)).2 rfl)).trans s1, fun j hj => ?_, h.bsb, h.zb, h.zs, (p1.mono (T := rv.ownBlock.toList) (by simp) |>.trans kB).fresh (fun j hj hlt => ?_)⟩
  · rcases hat with h1 | h1
    · exact h.rb j (h1 ▸ hj)
    · have e : j = w1.heap.size := by rw [h1] at hj; simpa using hj.symm
      omega
  · have h1 := (o1.lt j (by simpa using hj)).1
    omega
end
end Go.Proofs.Ytgaidloicmkdaaa
