/-
  The walk of policy.May: which rules may be. Condition: the library's tables lie as the row lists them; the rules lie in memory as the slice says.
-/
import Derived.Test.YtbmkdnkiojapbaaDoorPolW
import Derived.Laws.MakeOwn
namespace Go.Proofs.YtbmkdnkiojapbaaDoor
open Go.RowKit Go.Lib
set_option linter.unusedVariables false
set_option linter.unusedSimpArgs false

/-- the rules of a slice as they lie in memory -/
def RulesAt (w : World) (A : Option Addr) (l : List PR) : Prop :=
  l = [] ∨ ∃ b o, A = some ⟨b, o, none⟩ ∧ ∀ i x, l[i]? = some x → w.cell? ⟨b, o + i * 4, none⟩ = some (.string x.name) ∧ w.cell? ⟨b, o + i * 4 + 1, none⟩ = some (.bool x.deny) ∧ w.cell? ⟨b, o + i * 4 + 2, none⟩ = some (.int .u32 x.addr) ∧ w.cell? ⟨b, o + i * 4 + 3, none⟩ = some (.int .u16 x.port)
theorem RulesAt.keep0 {w w' : World} {A : Option Addr} {l : List PR} (h : RulesAt w A l) (k : Keeps [] w w') : RulesAt w' A l := by
  rcases h with h | ⟨b, o, h1, h2⟩
  · exact .inl h
  · exact .inr ⟨b, o, h1, fun i x hx => by
      obtain ⟨g0, g1, g2, g3⟩ := h2 i x hx
      exact ⟨cell_keeps k g0 (by simp), cell_keeps k g1 (by simp), cell_keeps k g2 (by simp), cell_keeps k g3 (by simp)⟩⟩
/-- no name twice, each named and leading well: s have come -/
def mayGo (c : PC) : List ByteArray → List PR → Bool
  | _, [] => true
  | s, x :: t => namedOk x.name && leadsOk c x && !decide (x.name ∈ s) && mayGo c (s ++ [x.name]) t
def mayL (c : PC) (l : List PR) : Bool := mayGo c [] l && decide (l.length ≤ 256)
def seenM (s : List ByteArray) : List (ByteArray × Int) := s.map fun n => (n, 1)
theorem find_seen (n : ByteArray) (s : List ByteArray) : SL.find n (seenM s) = if n ∈ s then some 1 else none := by
  induction s with
  | nil => rfl
  | cons a t ih =>
    simp only [seenM, List.map_cons, SL.find] at ih ⊢
    by_cases h : a = n
    · simp [h]
    · have h' : ¬ n = a := fun e => h e.symm
      rw [if_neg h, ih]
      simp [h']
theorem put_fresh {α : Type} {n : ByteArray} {v : α} {l : List (ByteArray × α)} (h4 : SL.find n l = none) : SL.put n v l = l ++ [(n, v)] := by
  induction l with
  | nil => rfl
  | cons x r ih =>
    simp only [SL.find] at h4
    by_cases hx : x.1 = n
    · simp [hx] at h4
    · simp only [hx, if_false] at h4
      simp [SL.put, hx, ih h4]
def seenAt (l : List PR) (i : Nat) : List ByteArray := (l.take i).map PR.name
theorem seenAt_next {l : List PR} {i : Nat} {x : PR} (hx : l[i]? = some x) : seenAt l (i + 1) = seenAt l i ++ [x.name] := by
  unfold seenAt
  rw [List.take_add_one, hx]
  simp
theorem SMapAt.keep {α : Type} {S : List Nat} {w w' : World} {r : Nat} {enc : α → Value} {l : List (ByteArray × α)} (h : SMapAt w r enc l) (k : Keeps S w w') (hS : r ∉ S) : SMapAt w' r enc l := h.of_heap (k.block r h.lt hS)
theorem mayGo_bad {c : PC} {l : List PR} {i : Nat} {x : PR} (hx : l[i]? = some x) (hgo : mayGo c [] l = mayGo c (seenAt l i) (l.drop i)) (h : namedOk x.name = false ∨ leadsOk c x = false ∨ x.name ∈ seenAt l i) : mayL c l = false := by
  unfold mayL
  rw [hgo]
  have hd : l.drop i = x :: l.drop (i + 1) := by
    rw [List.drop_eq_getElem_cons (List.getElem?_eq_some_iff.1 hx).1, (List.getElem?_eq_some_iff.1 hx).2]
  rw [hd, mayGo]
  rcases h with h | h | h
  · simp [h]
  · simp [h]
  · rw [decide_eq_true h]; simp
theorem mayGo_next {c : PC} {l : List PR} {i : Nat} {x : PR} (hx : l[i]? = some x) (hgo : mayGo c [] l = mayGo c (seenAt l i) (l.drop i)) (h1 : namedOk x.name = true) (h2 : leadsOk c x = true) (h3 : ¬ x.name ∈ seenAt l i) : mayGo c [] l = mayGo c (seenAt l (i + 1)) (l.drop (i + 1)) := by
  rw [hgo]
  have hd : l.drop i = x :: l.drop (i + 1) := by
    rw [List.drop_eq_getElem_cons (List.getElem?_eq_some_iff.1 hx).1, (List.getElem?_eq_some_iff.1 hx).2]
  rw [hd, mayGo, seenAt_next hx]
  simp only [h1, h2, h3, decide_false, Bool.not_false, Bool.true_and]
def encI (z : Int) : Value := .int .i64 z

set_option maxRecDepth 100000 in
set_option maxHeartbeats 4000000 in
theorem may_any (w : World) (hw : LW w) (c : PC) (r : PCR) (A : Option Addr) (n k : Nat) (l : List PR) (hn : l.length = n) (hl : RulesAt w A l) (hb : n ≤ 9223372036854775807) :
    Calls Tryd.prog 11 #[cfgV c r, .slice A n k] w fun e w' => e = .returned (.bool (mayL c l)) ∧ Keeps [] w w' := by
  obtain ⟨CS, hCS⟩ : ∃ CS : List Value, CS = [.int .u32 c.inside, .int .u32 c.mask, .int .u32 c.outer, .int .u16 r.lo, .int .u16 r.hi, .int .u64 r.qu, .int .i64 r.fl, .slice r.wa r.wn r.wc, .int .i64 r.sn, .int .u16 r.ms, .int .i64 r.sc, .bool r.sk, .int .u64 r.ky, .slice r.ra r.rn r.rc, .slice r.fa r.fn r.fc, .int .u64 r.rt, .int .i64 r.tr, .int .u64 r.dl, .int .u64 r.wt] := ⟨_, rfl⟩
  have hcv : cfgV c r = .agg CS.toArray := by rw [hCS]; rfl
  have hrb := range_box w CS 29
  have HW := Lib.hid hw
  have HLD := Lib.hid (fun (W : World) (x : PR) => leads_any W c r x)
  rw [hcv] at HLD
  obtain ⟨res, hres⟩ : ∃ res, mayL c l = res := ⟨_, rfl⟩
  rw [hres]
  have HRES := Lib.hid hres
  have HN := Lib.hid hn
  have HL := Lib.hid hl
  have hmm := @run_makeMap Tryd.prog
  have hcl : CS.length = 19 := by rw [hCS]; rfl
  rw [hcv]
  clear hw hres hl hn hCS hcv
  go_enter Tryd.func11, Tryd.ntmps11
  go_wp2_with fail
  obtain ⟨mb, hmb⟩ : ∃ mb, w.heap.size + 1 = mb := ⟨_, rfl⟩
  refine wp_gn fun w1 hw1 => ?_
  have kb : Keeps [] w w1 := by rw [hw1]; exact (Keeps.alloc [] w _).alloc' _
  have hm1 : SMapAt w1 mb encI (seenM []) := by
    have h1 := SMapAt.made (w.alloc (.cells CS.toArray 29)) encI
    rw [hw1, ← hmb]
    rw [World.size_alloc] at h1
    exact h1
  have hr1 : w1.rangeAt w.heap.size 0 CS := by rw [hw1]; exact rangeAt_keeps (Keeps.alloc [] _ _) hrb (by simp)
  have hsz1 : w1.heap.size = w.heap.size + 2 := by rw [hw1]; simp
  have hz1 := hsz1
  rw [hmb]
  have KB := Lib.hid kb
  have HR1 := Lib.hid hr1
  have HMB := Lib.hid hmb
  have HZ1 := Lib.hid hz1
  have HCL := Lib.hid hcl
  clear hw1 kb hr1 hmb hz1 hrb hsz1 hcl hmm
  have HG0 := Lib.hid (show mayGo c [] l = mayGo c (seenAt l 0) (l.drop 0) by simp [seenAt])
  go_loopw [11] (fun iv wr => ∃ i : Nat, iv = .int .i64 i ∧ i ≤ n ∧ SMapAt wr mb encI (seenM (seenAt l i)) ∧ Keeps [mb] w1 wr ∧ Hid (mayGo c [] l = mayGo c (seenAt l i) (l.drop i))) (fun iv _ => n - (intOf iv).toNat)
  case atStart => exact ⟨0, rfl, by omega, hm1, Keeps.refl _ _, HG0⟩
  case round =>
    obtain ⟨i, rfl, hi, hm, hkp, hgo⟩ := hrel
    have HM := Lib.hid hm
    have KP := Lib.hid hkp
    clear hm hkp hm1 HG0
    by_cases hlt : i < n
    · have hlt' : (i : Int) < n := by omega
      obtain ⟨x, hx⟩ : ∃ x, l[i]? = some x := ⟨_, List.getElem?_eq_getElem (by rw [HN.out]; exact hlt)⟩
      have hne : ¬ l = [] := by rintro rfl; simp at hx
      obtain ⟨b, o, rfl, hc⟩ := HL.out.resolve_left hne
      obtain ⟨g0, g1, g2, g3⟩ := hc i x hx
      have kw : Keeps [] w wr := ((KB.out.mono (T := [mb]) (by simp)).trans KP.out).fresh (by intro y hy hlt; simp at hy; have := HMB.out; omega)
      have c0 := cell_keeps kw g0 (by simp)
      have c1 := cell_keeps kw g1 (by simp)
      have c2 := cell_keeps kw g2 (by simp)
      have c3 := cell_keeps kw g3 (by simp)
      have KW := Lib.hid kw
      have HX := Lib.hid hx
      clear hc g0 g1 g2 g3 kw hx hne
      go_wp2_with fail
      refine calls_gn fun wg hwg => ?_
      have hg1 : Keeps [] wr wg := by rw [hwg]; exact Keeps.alloc [] wr _
      have hb1 : wg.heap[wr.heap.size]? = some (.cells #[.string x.name, .bool x.deny, .int .u32 x.addr, .int .u16 x.port] 35 (0, 0)) := by rw [hwg]; exact (MapKept.heap_alloc wr _).1
      obtain ⟨nb, hnb⟩ : ∃ nb, wr.heap.size = nb := ⟨_, rfl⟩
      rw [hnb] at hb1 ⊢
      have HNB := Lib.hid hnb
      have KG := Lib.hid (KW.out.trans hg1)
      have HB1 := Lib.hid hb1
      have HMG := Lib.hid (HM.out.keep hg1 (by simp))
      have KPG := Lib.hid (KP.out.trans (hg1.mono (by simp)))
      clear hwg hg1 hb1 hnb c0 c1 c2 c3
      refine (named_any wg (HW.out.keep0 KG.out) x.name).mono ?_
      rintro e w2 ⟨rfl, k2⟩
      have hlg := lt_of_block HB1.out
      have hb2 : w2.heap[nb]? = some (.cells #[.string x.name, .bool x.deny, .int .u32 x.addr, .int .u16 x.port] 35 (0, 0)) := (k2.block nb hlg (by simp)).trans HB1.out
      have HB2 := Lib.hid hb2
      have KG2 := Lib.hid (KG.out.trans k2)
      have HM2 := Lib.hid (HMG.out.keep k2 (by simp))
      have KP2 := Lib.hid (KPG.out.trans (k2.mono (by simp)))
      clear k2 hlg hb2 HB1 KG HMG KPG HM KP
      obtain ⟨zn, hzn⟩ : ∃ zn, namedOk x.name = zn := ⟨_, rfl⟩
      rw [hzn]
      have HZN := Lib.hid hzn
      clear hzn
      cases zn with
      | false =>
        have hr : res = false := HRES.out.symm.trans (mayGo_bad HX.out hgo.out (.inl HZN.out))
        subst hr
        go_wp2_with fail
        go_ret
        exact ⟨rfl, KG2.out⟩
      | true =>
        have hr2 : w2.rangeAt w.heap.size 0 CS := rangeAt_keeps KP2.out HR1.out (by simp; have := HMB.out; omega)
        have HR2 := Lib.hid hr2
        have c0 : w2.cell? ⟨nb, 0, none⟩ = some (.string x.name) := cell_of_block HB2.out 0
        have c1 : w2.cell? ⟨nb, 1, none⟩ = some (.bool x.deny) := cell_of_block HB2.out 1
        have c2 : w2.cell? ⟨nb, 2, none⟩ = some (.int .u32 x.addr) := cell_of_block HB2.out 2
        have c3 : w2.cell? ⟨nb, 3, none⟩ = some (.int .u16 x.port) := cell_of_block HB2.out 3
        clear hr2
        go_wp2_with (refine wpList_load_want 29 (.tmp 2) rfl (by simp [Region.wanted, yielded]) w.heap.size 0 rfl _ _ HR2.out Tryd.underlying29 rfl (by rw [HCL.out]; kernel_rfl) ?_)
        refine (HLD.out w2 x).mono ?_
        rintro e w3 ⟨rfl, k3⟩
        have hlg := lt_of_block HB2.out
        have hb3 : w3.heap[nb]? = some (.cells #[.string x.name, .bool x.deny, .int .u32 x.addr, .int .u16 x.port] 35 (0, 0)) := (k3.block nb hlg (by simp)).trans HB2.out
        have HB3 := Lib.hid hb3
        have KG3 := Lib.hid (KG2.out.trans k3)
        have HM3 := Lib.hid (HM2.out.keep k3 (by simp))
        have KP3 := Lib.hid (KP2.out.trans (k3.mono (by simp)))
        clear k3 hlg hb3 c0 c1 c2 c3 HB2 KG2 HM2 KP2 HR2
        obtain ⟨zl, hzl⟩ : ∃ zl, leadsOk c x = zl := ⟨_, rfl⟩
        rw [hzl]
        have HZL := Lib.hid hzl
        clear hzl
        cases zl with
        | false =>
          have hr : res = false := HRES.out.symm.trans (mayGo_bad HX.out hgo.out (.inr (.inl HZL.out)))
          subst hr
          go_wp2_with fail
          go_ret
          exact ⟨rfl, KG3.out⟩
        | true =>
          have c0 : w3.cell? ⟨nb, 0, none⟩ = some (.string x.name) := cell_of_block HB3.out 0
          have hlk := HM3.out.look (P := Tryd.prog) (t := 65) Tryd.underlying65 Tryd.underlying9 Tryd.zeroValue3 x.name w3 rfl false
          rw [find_seen] at hlk
          by_cases hmem : x.name ∈ seenAt l i
          · rw [if_pos hmem] at hlk
            simp only [Option.map_some, Option.getD_some, encI, if_neg (by decide : ¬ (false = true))] at hlk
            have hr : res = false := HRES.out.symm.trans (mayGo_bad HX.out hgo.out (.inr (.inr hmem)))
            subst hr
            clear hmem
            go_wp2_with fail
            go_ret
            exact ⟨rfl, KG3.out⟩
          · rw [if_neg hmem] at hlk
            simp only [Option.map_none, Option.getD_none, if_neg (by decide : ¬ (false = true))] at hlk
            have HNM := Lib.hid hmem
            clear hmem
            go_wp2_with (at_mapUpdate; refine wpList_mapUpdate_at_s (enc := encI) rfl _ _ _ rfl Tryd.underlying65 Tryd.underlying9 rfl x.name 1 rfl rfl HM3.out ?_)
            intro w5 hm5 ht5
            have hput : SL.put x.name 1 (seenM (seenAt l i)) = seenM (seenAt l (i + 1)) := by
              rw [put_fresh (by rw [find_seen, if_neg HNM.out]), seenAt_next HX.out]
              simp [seenM]
            rw [hput] at hm5
            have KK := Lib.hid (KP3.out.trans (Keeps.turned ht5))
            have HM5 := Lib.hid hm5
            have HGN := Lib.hid (mayGo_next HX.out hgo.out HZN.out HZL.out HNM.out)
            clear hm5 ht5 hput c0 hlk
            go_wp2_with fail
            exact ⟨⟨i + 1, by simp, by omega, HM5.out, KK.out, HGN⟩, by simp [intOf]; omega⟩
    · obtain rfl : i = n := by omega
      have hr : res = decide (i ≤ 256) := by
        rw [← HRES.out]
        unfold mayL
        rw [hgo.out, List.drop_of_length_le (by rw [HN.out]; exact Nat.le_refl _), mayGo, HN.out, Bool.true_and]
      have kw : Keeps [] w wr := ((KB.out.mono (T := [mb]) (by simp)).trans KP.out).fresh (by intro y hy hlt; simp at hy; have := HMB.out; omega)
      have KW := Lib.hid kw
      have HR := Lib.hid hr
      clear kw hr
      have hlt' : ¬ (i : Int) < (i : Int) := by omega
      go_wp2_with fail
      go_ret
      exact ⟨by rw [HR.out]; simp; omega, KW.out⟩
end Go.Proofs.YtbmkdnkiojapbaaDoor
