/-
  The walks of the document's Inside and May. Condition: the rules lie in memory as the slice says.
-/
import Derived.Test.YtbmkdnkiojapbaaDoorPolRg
import Derived.Test.YtbmkdnkiojapbaaDoorPolRf
import Derived.Test.YtbmkdnkiojapbaaDoorPolM
namespace Go.Proofs.YtbmkdnkiojapbaaDoor
open Go.RowKit Go.Lib
set_option linter.unusedVariables false
set_option linter.unusedSimpArgs false

theorem wrap_bv (z : BitVec 32) : IntKind.u32.wrap (z.toNat : Int) = (z.toNat : Int) := by
  have h := z.isLt
  show (z.toNat : Int) % 4294967296 = (z.toNat : Int)
  omega
/-- bits as they lie -/
theorem bits_and32 (x y : Int) : bits .and IntKind.u32 x y = (((BitVec.ofInt 32 x &&& BitVec.ofInt 32 y : BitVec 32).toNat : Nat) : Int) := wrap_bv _
theorem bits_xor32 (x y : Int) : bits .xor IntKind.u32 x y = (((BitVec.ofInt 32 x ^^^ BitVec.ofInt 32 y : BitVec 32).toNat : Nat) : Int) := wrap_bv _
theorem ofInt_toNat (z : BitVec 32) : BitVec.ofInt 32 (z.toNat : Int) = z := by
  rw [BitVec.ofInt_natCast, BitVec.ofNat_toNat, BitVec.setWidth_eq]
theorem inside_bits (c : PC) (a : Int) : (bits .and .u32 a c.mask == bits .and .u32 c.inside c.mask) = insideOf c a := by
  unfold insideOf
  rw [bits_and32, bits_and32, bits_and32, bits_xor32]
  simp only [ofInt_toNat]
  rw [Bool.eq_iff_iff, beq_iff_eq, beq_iff_eq]
  constructor
  · intro h
    have h2 : BitVec.ofInt 32 a &&& BitVec.ofInt 32 c.mask = BitVec.ofInt 32 c.inside &&& BitVec.ofInt 32 c.mask := BitVec.eq_of_toNat_eq (by exact_mod_cast h)
    have h3 : (BitVec.ofInt 32 a ^^^ BitVec.ofInt 32 c.inside) &&& BitVec.ofInt 32 c.mask = (BitVec.ofInt 32 a &&& BitVec.ofInt 32 c.mask) ^^^ (BitVec.ofInt 32 c.inside &&& BitVec.ofInt 32 c.mask) := by
      ext i hi
      simp
      cases (BitVec.ofInt 32 a)[i] <;> cases (BitVec.ofInt 32 c.inside)[i] <;> cases (BitVec.ofInt 32 c.mask)[i] <;> rfl
    rw [h3, h2, BitVec.xor_self]
    rfl
  · intro h
    have h2 : (BitVec.ofInt 32 a ^^^ BitVec.ofInt 32 c.inside) &&& BitVec.ofInt 32 c.mask = 0#32 := BitVec.eq_of_toNat_eq (by exact_mod_cast h)
    have h3 : BitVec.ofInt 32 a &&& BitVec.ofInt 32 c.mask = BitVec.ofInt 32 c.inside &&& BitVec.ofInt 32 c.mask := by
      ext i hi
      have h4 : ((BitVec.ofInt 32 a ^^^ BitVec.ofInt 32 c.inside) &&& BitVec.ofInt 32 c.mask)[i] = (0#32)[i] := by rw [h2]
      simp at h4 ⊢
      revert h4
      cases (BitVec.ofInt 32 a)[i] <;> cases (BitVec.ofInt 32 c.inside)[i] <;> cases (BitVec.ofInt 32 c.mask)[i] <;> simp
    rw [h3]
set_option maxRecDepth 100000 in
set_option maxHeartbeats 2000000 in
theorem rinside_any (w : World) (c : PC) (r : PCR) (a : Int) : Calls Tryd.prog 45 #[cfgV c r, .int .u32 a] w fun e w' => e = .returned (.bool (insideOf c a)) ∧ Keeps [] w w' := by
  unfold cfgV
  go_enter Tryd.func45, Tryd.ntmps45
  go_wp2_with fail
  go_ret
  exact ⟨by rw [← inside_bits]; rfl, by first | exact Keeps.alloc [] w _ | exact (Keeps.refl [] w).alloc' _⟩
set_option maxRecDepth 100000 in
set_option maxHeartbeats 16000000 in
theorem rmay_any (w : World) (c : PC) (r : PCR) (A : Option Addr) (n k : Nat) (l : List PR) (hn : l.length = n) (hl : RulesAt w A l) (hb : n ≤ 9223372036854775807) :
    Calls Tryd.prog 19 #[cfgV c r, .slice A n k] w fun e w' => e = .returned (.bool (mayL c l)) ∧ Keeps [] w w' := by
  obtain ⟨CS, hCS⟩ : ∃ CS : List Value, CS = [.int .u32 c.inside, .int .u32 c.mask, .int .u32 c.outer, .int .u16 r.lo, .int .u16 r.hi, .int .u64 r.qu, .int .i64 r.fl, .slice r.wa r.wn r.wc, .int .i64 r.sn, .int .u16 r.ms, .int .i64 r.sc, .bool r.sk, .int .u64 r.ky, .slice r.ra r.rn r.rc, .slice r.fa r.fn r.fc, .int .u64 r.rt, .int .i64 r.tr, .int .u64 r.dl, .int .u64 r.wt] := ⟨_, rfl⟩
  have hcv : cfgV c r = .agg CS.toArray := by rw [hCS]; rfl
  have hrb := range_box w CS 29
  have HRI := Lib.hid (fun (W : World) (a : Int) => rinside_any W c r a)
  rw [hcv] at HRI
  obtain ⟨res, hres⟩ : ∃ res, mayL c l = res := ⟨_, rfl⟩
  rw [hres]
  have HRES := Lib.hid hres
  have HN := Lib.hid hn
  have HL := Lib.hid (fun (W : World) (kz : Keeps [] w W) => hl.keep0 kz)
  have hcl : CS.length = 19 := by rw [hCS]; rfl
  have hco : CS[2]? = some (.int .u32 c.outer) := by rw [hCS]; rfl
  rw [hcv]
  obtain ⟨cb, hcb⟩ : ∃ cb, w.heap.size = cb := ⟨_, rfl⟩
  rw [hcb] at hrb
  have HRB := Lib.hid hrb
  have HCB := Lib.hid hcb
  have HCL := Lib.hid (And.intro hcl hco)
  clear hres hl hn hCS hcv hcl hco hrb
  by_cases hbig : 256 < n
  · obtain rfl : false = res := by
      rw [← HRES.out]; unfold mayL
      rw [decide_eq_false (by rw [HN.out]; omega), Bool.and_false]
    have hbi : (256 : Int) < n := by omega
    clear hcb
    go_enter Tryd.func19, Tryd.ntmps19
    go_wp2_with fail
    go_ret
    exact ⟨rfl, by first | exact Keeps.alloc [] w _ | exact (Keeps.refl [] w).alloc' _⟩
  · have hbi : ¬ (256 : Int) < n := by omega
    go_enter Tryd.func19, Tryd.ntmps19
    go_wp2_with fail

    clear hcb
    refine wp_gn fun w1 hw1 => ?_
    have kb : Keeps [] w w1 := by rw [hw1]; exact Keeps.alloc [] w _
    have hr1 : w1.rangeAt cb 0 CS := by rw [hw1]; exact HRB.out
    have KB := Lib.hid kb
    have HR1 := Lib.hid hr1
    clear hw1 kb hr1 HRB
    have HG0 := Lib.hid (And.intro (Keeps.refl [] w1) (show mayGo c [] l = mayGo c (seenAt l 0) (l.drop 0) by simp [seenAt]))
    go_loopw [5] (fun iv wr => ∃ i : Nat, iv = .int .i64 i ∧ i ≤ n ∧ Hid (Keeps [] w1 wr ∧ mayGo c [] l = mayGo c (seenAt l i) (l.drop i))) (fun iv _ => n - (intOf iv).toNat)
    case atStart => exact ⟨0, rfl, by omega, HG0⟩
    case round =>
      obtain ⟨i, rfl, hi, HI⟩ := hrel
      clear HG0
      by_cases hlt : i < n
      · have hlt' : (i : Int) < n := by omega
        obtain ⟨⟨xn, xd, xa, xp⟩, hx⟩ : ∃ x, l[i]? = some x := ⟨_, List.getElem?_eq_getElem (by rw [HN.out]; exact hlt)⟩
        have hne : ¬ l = [] := by rintro rfl; simp at hx
        obtain ⟨b, o, rfl, hc⟩ := (HL.out _ (Keeps.refl [] w)).resolve_left hne
        obtain ⟨g0, g1, g2, g3⟩ := hc i _ hx
        have kw : Keeps [] w wr := KB.out.trans HI.out.1
        have c0 := cell_keeps kw g0 (by simp)
        have c1 := cell_keeps kw g1 (by simp)
        have c2 := cell_keeps kw g2 (by simp)
        have c3 := cell_keeps kw g3 (by simp)
        have KW := Lib.hid kw
        have HX := Lib.hid hx
        have HC := Lib.hid hc
        clear hc g0 g1 g2 g3 kw hx hne
        go_wp2_with fail
        refine calls_gn fun wg hwg => ?_
        have hg1 : Keeps [] wr wg := by rw [hwg]; exact Keeps.alloc [] wr _
        have hb1 : wg.heap[wr.heap.size]? = some (.cells #[.string xn, .bool xd, .int .u32 xa, .int .u16 xp] 35 (0, 0)) := by rw [hwg]; exact (MapKept.heap_alloc wr _).1
        obtain ⟨nb, hnb⟩ : ∃ nb, wr.heap.size = nb := ⟨_, rfl⟩
        rw [hnb] at hb1 ⊢
        have HH := Lib.hid (rhost_any wg xn)
        have HF := Lib.hid (fun (W : World) => rfold_any W (hostB xn))
        have hnok : namedOk xn = (xn.toList.isEmpty || (foldIs (hostB xn) && (foldB (hostB xn)).toList == (hostB xn).toList)) := rfl
        obtain ⟨h, hh⟩ : ∃ h, hostB xn = h := ⟨_, rfl⟩
        obtain ⟨sq, hsq⟩ : ∃ q, starQ xn = q := ⟨_, rfl⟩
        rw [hh] at hnok HH HF
        rw [hsq] at HH
        obtain ⟨fi, hfi⟩ : ∃ fi, foldIs h = fi := ⟨_, rfl⟩
        obtain ⟨fb, hfb⟩ : ∃ fb, foldB h = fb := ⟨_, rfl⟩
        rw [hfi, hfb] at hnok HF
        obtain ⟨ei, hei⟩ : ∃ ei, xn.toList.isEmpty = ei := ⟨_, rfl⟩
        obtain ⟨q, hq⟩ : ∃ q, (fb.toList == h.toList) = q := ⟨_, rfl⟩
        rw [hei, hq] at hnok
        have HNOK := Lib.hid hnok
        have KG := Lib.hid (And.intro (HI.out.1.trans hg1) hb1)
        clear hh hsq hfi hfb hnok hwg hg1 hb1 hnb c0 c1 c2 c3
        refine HH.out.mono ?_
        rintro e w2 ⟨rfl, e2⟩
        obtain rfl := e2.symm
        clear HH e2
        go_wp2_with fail
        refine (HF.out _).mono ?_
        rintro e w3 ⟨rfl, k3⟩
        have hlg := lt_of_block KG.out.2
        have K3 := Lib.hid (KG.out.1.trans k3)
        have hb3 := (k3.block nb hlg (by simp)).trans KG.out.2
        have c0 : w3.cell? ⟨nb, 0, none⟩ = some (.string xn) := cell_of_block hb3 0
        have c1 : w3.cell? ⟨nb, 1, none⟩ = some (.bool xd) := cell_of_block hb3 1
        have c2 : w3.cell? ⟨nb, 2, none⟩ = some (.int .u32 xa) := cell_of_block hb3 2
        have c3 : w3.cell? ⟨nb, 3, none⟩ = some (.int .u16 xp) := cell_of_block hb3 3
        have C0 := Lib.hid c0
        have hr3 : w3.rangeAt cb 0 CS := rangeAt_keeps K3.out HR1.out (by simp)
        have o2 : w3.cell? ⟨cb, 2, none⟩ = some (.int .u32 c.outer) := hr3 2 _ HCL.out.2
        have HR3 := Lib.hid hr3
        clear k3 hlg hb3 hr3 KG HF
        have hcase : (ei = false ∧ fi = false) ∨ (ei = false ∧ fi = true ∧ q = false) ∨ ei = true ∨ (ei = false ∧ fi = true ∧ q = true) := by
          cases ei <;> cases fi <;> cases q <;> simp
        rcases hcase with ⟨rfl, rfl⟩ | ⟨rfl, rfl, rfl⟩ | rfl | ⟨rfl, rfl, rfl⟩
        · obtain rfl : false = res := (HRES.out.symm.trans (mayGo_bad HX.out HI.out.2 (.inl (by rw [show namedOk (⟨xn, xd, xa, xp⟩ : PR).name = _ from HNOK.out]; simp)))).symm
          clear HR3 C0 HRI
          go_wp2_with fail
          go_ret
          exact ⟨rfl, KB.out.trans K3.out⟩
        · obtain rfl : false = res := (HRES.out.symm.trans (mayGo_bad HX.out HI.out.2 (.inl (by rw [show namedOk (⟨xn, xd, xa, xp⟩ : PR).name = _ from HNOK.out]; simp)))).symm
          clear HR3 C0 HRI
          go_wp2_with fail
          go_ret
          exact ⟨rfl, KB.out.trans K3.out⟩
        · have HNK := Lib.hid (show namedOk (⟨xn, xd, xa, xp⟩ : PR).name = true by rw [show namedOk (⟨xn, xd, xa, xp⟩ : PR).name = _ from HNOK.out]; simp)
          cases xd with
          | true =>
            by_cases h1 : xa = 0
            · have h1b : (xa == 0) = true := by rw [h1]; rfl
              by_cases h2 : xp = 0
              · have h2b : (xp == 0) = true := by rw [h2]; rfl
                have HLD := Lib.hid (show leadsOk c ⟨xn, true, xa, xp⟩ = true by simp [leadsOk, h1, h2])
                have KX := Lib.hid K3.out
                have CX := Lib.hid C0.out
                clear HR3 C0 HRI
                go_wp2_with fail
                go_loopw [11] (fun jv wr => ∃ j : Nat, jv = .int .i64 j ∧ j ≤ i ∧ Hid (Keeps [] w3 wr ∧ ∀ y ∈ l.take j, ¬ y.name = xn)) (fun jv _ => i - (intOf jv).toNat)
                case atStart => exact ⟨0, rfl, by omega, Lib.hid ⟨Keeps.refl _ _, by simp⟩⟩
                case round =>
                  obtain ⟨j, rfl, hj, HJ⟩ := hrel
                  by_cases hji : j < i
                  · have hji' : (j : Int) < i := by omega
                    have hj0 : (0 : Int) ≤ j := by omega
                    have hjn : (j : Int) < n := by omega
                    obtain ⟨⟨yn, yd, ya, yp⟩, hy⟩ : ∃ y, l[j]? = some y := ⟨_, List.getElem?_eq_getElem (by rw [HN.out]; omega)⟩
                    have KJ := Lib.hid (KX.out.trans HJ.out.1)
                    have SR := Lib.hid (show wr.drew.cell? ⟨b, o + j * 4, none⟩ = some (.string yn) ∧ wr.drew.cell? ⟨nb, 0, none⟩ = some (.string xn) from
                      ⟨cell_keeps (KB.out.trans KJ.out).drew' (HC.out j _ hy).1 (by simp), cell_keeps HJ.out.1.drew' CX.out (by simp)⟩)
                    have HY := Lib.hid hy
                    clear hy
                    by_cases hxy : yn = xn
                    · have hm : xn ∈ seenAt l i := by
                        unfold seenAt
                        refine List.mem_map.2 ⟨_, List.mem_of_getElem? (?_ : (l.take i)[j]? = some ⟨yn, yd, ya, yp⟩), hxy⟩
                        rw [List.getElem?_take_of_lt hji]; exact HY.out
                      obtain rfl : false = res := (HRES.out.symm.trans (mayGo_bad HX.out HI.out.2 (.inr (.inr hm)))).symm
                      have hxq : (yn.toList == xn.toList) = true := by rw [hxy]; simp
                      have hxs : yn.toList = xn.toList := by rw [hxy]
                      clear hm hxy
                      go_wp2_with fail
                      go_region_held3 (fun W => W.cell? ⟨b, o + j * 4, none⟩ = some (.string yn) ∧ W.cell? ⟨nb, 0, none⟩ = some (.string xn))
                        (exact SR.out)
                        (fail)
                      go_wp2_with fail
                      go_ret
                      exact ⟨rfl, (KB.out.trans KJ.out).drew'⟩
                    · have hxq : (yn.toList == xn.toList) = false := by rw [ba_toList]; exact decide_eq_false hxy
                      have hxs : ¬ yn.toList = xn.toList := fun e => by rw [e] at hxq; simp at hxq
                      have HXY := Lib.hid hxy
                      clear hxy
                      have HKD := Lib.hid HJ.out.1.drew'
                      go_wp2_with fail
                      go_region_held3 (fun W => W.cell? ⟨b, o + j * 4, none⟩ = some (.string yn) ∧ W.cell? ⟨nb, 0, none⟩ = some (.string xn))
                        (exact SR.out)
                        (fail)
                      go_wp2_with fail
                      exact ⟨⟨j + 1, by simp, by omega, Lib.hid ⟨HKD.out, by
                        intro y hy
                        rw [List.take_add_one, HY.out] at hy
                        rcases List.mem_append.1 hy with hy | hy
                        · exact HJ.out.2 y hy
                        · simp at hy; subst hy; exact HXY.out⟩⟩, by simp [intOf]; omega⟩
                  · obtain rfl : j = i := by omega
                    have hji' : ¬ (j : Int) < (j : Int) := by omega
                    have HGN := Lib.hid (mayGo_next HX.out HI.out.2 HNK.out HLD.out (by
                      intro hm
                      unfold seenAt at hm
                      obtain ⟨y, hy1, hy2⟩ := List.mem_map.1 hm
                      exact HJ.out.2 y hy1 hy2))
                    have KJ := Lib.hid (KX.out.trans HJ.out.1)
                    go_wp2_with fail
                    exact ⟨⟨j + 1, by simp, by omega, Lib.hid ⟨KJ.out, HGN.out⟩⟩, by simp [intOf]; omega⟩
              · have h2b : (xp == 0) = false := beq_eq_false_iff_ne.2 h2
                obtain rfl : false = res := (HRES.out.symm.trans (mayGo_bad HX.out HI.out.2 (.inr (.inl (show leadsOk c ⟨xn, true, xa, xp⟩ = false by simp [leadsOk, h1, h2]))))).symm
                clear HR3 C0 HRI
                go_wp2_with fail
                go_ret
                exact ⟨rfl, KB.out.trans K3.out⟩
            · have h1b : (xa == 0) = false := beq_eq_false_iff_ne.2 h1
              obtain rfl : false = res := (HRES.out.symm.trans (mayGo_bad HX.out HI.out.2 (.inr (.inl (show leadsOk c ⟨xn, true, xa, xp⟩ = false by simp [leadsOk, h1]))))).symm
              clear HR3 C0 HRI
              go_wp2_with fail
              go_ret
              exact ⟨rfl, KB.out.trans K3.out⟩
          | false =>
            by_cases h1 : xa = 0
            · have h1b : (xa == 0) = true := by rw [h1]; rfl
              obtain rfl : false = res := (HRES.out.symm.trans (mayGo_bad HX.out HI.out.2 (.inr (.inl (show leadsOk c ⟨xn, false, xa, xp⟩ = false by simp [leadsOk, h1]))))).symm
              clear HR3 C0 HRI
              go_wp2_with fail
              go_ret
              exact ⟨rfl, KB.out.trans K3.out⟩
            · have h1b : (xa == 0) = false := beq_eq_false_iff_ne.2 h1
              by_cases h2 : xp = 0
              · have h2b : (xp == 0) = true := by rw [h2]; rfl
                obtain rfl : false = res := (HRES.out.symm.trans (mayGo_bad HX.out HI.out.2 (.inr (.inl (show leadsOk c ⟨xn, false, xa, xp⟩ = false by simp [leadsOk, h2]))))).symm
                clear HR3 C0 HRI
                go_wp2_with fail
                go_ret
                exact ⟨rfl, KB.out.trans K3.out⟩
              · have h2b : (xp == 0) = false := beq_eq_false_iff_ne.2 h2
                by_cases h3 : xa = c.outer
                · have h3b : (xa == c.outer) = true := by rw [h3]; simp
                  obtain rfl : false = res := (HRES.out.symm.trans (mayGo_bad HX.out HI.out.2 (.inr (.inl (show leadsOk c ⟨xn, false, xa, xp⟩ = false by simp [leadsOk, h3]))))).symm
                  clear HR3 C0 HRI
                  go_wp2_with fail
                  go_ret
                  exact ⟨rfl, KB.out.trans K3.out⟩
                · have h3b : (xa == c.outer) = false := beq_eq_false_iff_ne.2 h3
                  have HIN := Lib.hid (HRI.out w3 xa)
                  obtain ⟨iz, hiz⟩ : ∃ iz, insideOf c xa = iz := ⟨_, rfl⟩
                  rw [hiz] at HIN
                  have HIZ := Lib.hid hiz
                  clear hiz
                  have h1' := h1
                  have h2' := h2
                  have h3' := h3
                  cases iz with
                  | true =>
                    obtain rfl : false = res := (HRES.out.symm.trans (mayGo_bad HX.out HI.out.2 (.inr (.inl (show leadsOk c ⟨xn, false, xa, xp⟩ = false by simp [leadsOk, HIZ.out]))))).symm
                    clear C0 HRI
                    go_wp2_with (with_reducible refine wpList_load_want 29 (.tmp 2) (by with_reducible rfl) (by simp [Region.wanted, yielded, h1, h2, h3, h1b, h2b, h3b]) cb 0 (by with_unfolding_all rfl) _ _ HR3.out Tryd.underlying29 (by with_unfolding_all rfl) (by rw [HCL.out.1]; kernel_rfl) ?_)
                    refine HIN.out.mono ?_
                    rintro e w4 ⟨rfl, k4⟩
                    have K4 := Lib.hid (K3.out.trans k4)
                    clear k4 c0 c1 c2 c3 o2
                    go_wp2_with fail
                    go_ret
                    exact ⟨rfl, KB.out.trans K4.out⟩
                  | false =>
                    have HLD := Lib.hid (show leadsOk c ⟨xn, false, xa, xp⟩ = true by simp [leadsOk, h1, h2, h3, HIZ.out])
                    go_wp2_with (with_reducible refine wpList_load_want 29 (.tmp 2) (by with_reducible rfl) (by simp [Region.wanted, yielded, h1, h2, h3, h1', h2', h3', h1b, h2b, h3b]) cb 0 (by with_unfolding_all rfl) _ _ HR3.out Tryd.underlying29 (by with_unfolding_all rfl) (by rw [HCL.out.1]; kernel_rfl) ?_)
                    refine HIN.out.mono ?_
                    rintro e w4 ⟨rfl, k4⟩
                    have KX := Lib.hid (K3.out.trans k4)
                    have CX := Lib.hid (cell_keeps k4 C0.out (by simp))
                    clear k4 HR3 C0 HRI c0 c1 c2 c3 o2
                    go_wp2_with fail
                    go_loopw [11] (fun jv wr => ∃ j : Nat, jv = .int .i64 j ∧ j ≤ i ∧ Hid (Keeps [] w4 wr ∧ ∀ y ∈ l.take j, ¬ y.name = xn)) (fun jv _ => i - (intOf jv).toNat)
                    case atStart => exact ⟨0, rfl, by omega, Lib.hid ⟨Keeps.refl _ _, by simp⟩⟩
                    case round =>
                      obtain ⟨j, rfl, hj, HJ⟩ := hrel
                      by_cases hji : j < i
                      · have hji' : (j : Int) < i := by omega
                        have hj0 : (0 : Int) ≤ j := by omega
                        have hjn : (j : Int) < n := by omega
                        obtain ⟨⟨yn, yd, ya, yp⟩, hy⟩ : ∃ y, l[j]? = some y := ⟨_, List.getElem?_eq_getElem (by rw [HN.out]; omega)⟩
                        have KJ := Lib.hid (KX.out.trans HJ.out.1)
                        have SR := Lib.hid (show wr.drew.cell? ⟨b, o + j * 4, none⟩ = some (.string yn) ∧ wr.drew.cell? ⟨nb, 0, none⟩ = some (.string xn) from
                          ⟨cell_keeps (KB.out.trans KJ.out).drew' (HC.out j _ hy).1 (by simp), cell_keeps HJ.out.1.drew' CX.out (by simp)⟩)
                        have HY := Lib.hid hy
                        clear hy
                        by_cases hxy : yn = xn
                        · have hm : xn ∈ seenAt l i := by
                            unfold seenAt
                            refine List.mem_map.2 ⟨_, List.mem_of_getElem? (?_ : (l.take i)[j]? = some ⟨yn, yd, ya, yp⟩), hxy⟩
                            rw [List.getElem?_take_of_lt hji]; exact HY.out
                          obtain rfl : false = res := (HRES.out.symm.trans (mayGo_bad HX.out HI.out.2 (.inr (.inr hm)))).symm
                          have hxq : (yn.toList == xn.toList) = true := by rw [hxy]; simp
                          have hxs : yn.toList = xn.toList := by rw [hxy]
                          clear hm hxy
                          go_wp2_with fail
                          go_region_held3 (fun W => W.cell? ⟨b, o + j * 4, none⟩ = some (.string yn) ∧ W.cell? ⟨nb, 0, none⟩ = some (.string xn))
                            (exact SR.out)
                            (fail)
                          go_wp2_with fail
                          go_ret
                          exact ⟨rfl, (KB.out.trans KJ.out).drew'⟩
                        · have hxq : (yn.toList == xn.toList) = false := by rw [ba_toList]; exact decide_eq_false hxy
                          have hxs : ¬ yn.toList = xn.toList := fun e => by rw [e] at hxq; simp at hxq
                          have HXY := Lib.hid hxy
                          clear hxy
                          have HKD := Lib.hid HJ.out.1.drew'
                          go_wp2_with fail
                          go_region_held3 (fun W => W.cell? ⟨b, o + j * 4, none⟩ = some (.string yn) ∧ W.cell? ⟨nb, 0, none⟩ = some (.string xn))
                            (exact SR.out)
                            (fail)
                          go_wp2_with fail
                          exact ⟨⟨j + 1, by simp, by omega, Lib.hid ⟨HKD.out, by
                            intro y hy
                            rw [List.take_add_one, HY.out] at hy
                            rcases List.mem_append.1 hy with hy | hy
                            · exact HJ.out.2 y hy
                            · simp at hy; subst hy; exact HXY.out⟩⟩, by simp [intOf]; omega⟩
                      · obtain rfl : j = i := by omega
                        have hji' : ¬ (j : Int) < (j : Int) := by omega
                        have HGN := Lib.hid (mayGo_next HX.out HI.out.2 HNK.out HLD.out (by
                          intro hm
                          unfold seenAt at hm
                          obtain ⟨y, hy1, hy2⟩ := List.mem_map.1 hm
                          exact HJ.out.2 y hy1 hy2))
                        have KJ := Lib.hid (KX.out.trans HJ.out.1)
                        go_wp2_with fail
                        exact ⟨⟨j + 1, by simp, by omega, Lib.hid ⟨KJ.out, HGN.out⟩⟩, by simp [intOf]; omega⟩
        · have HNK := Lib.hid (show namedOk (⟨xn, xd, xa, xp⟩ : PR).name = true by rw [show namedOk (⟨xn, xd, xa, xp⟩ : PR).name = _ from HNOK.out]; simp)
          cases xd with
          | true =>
            by_cases h1 : xa = 0
            · have h1b : (xa == 0) = true := by rw [h1]; rfl
              by_cases h2 : xp = 0
              · have h2b : (xp == 0) = true := by rw [h2]; rfl
                have HLD := Lib.hid (show leadsOk c ⟨xn, true, xa, xp⟩ = true by simp [leadsOk, h1, h2])
                have KX := Lib.hid K3.out
                have CX := Lib.hid C0.out
                clear HR3 C0 HRI
                go_wp2_with fail
                go_loopw [11] (fun jv wr => ∃ j : Nat, jv = .int .i64 j ∧ j ≤ i ∧ Hid (Keeps [] w3 wr ∧ ∀ y ∈ l.take j, ¬ y.name = xn)) (fun jv _ => i - (intOf jv).toNat)
                case atStart => exact ⟨0, rfl, by omega, Lib.hid ⟨Keeps.refl _ _, by simp⟩⟩
                case round =>
                  obtain ⟨j, rfl, hj, HJ⟩ := hrel
                  by_cases hji : j < i
                  · have hji' : (j : Int) < i := by omega
                    have hj0 : (0 : Int) ≤ j := by omega
                    have hjn : (j : Int) < n := by omega
                    obtain ⟨⟨yn, yd, ya, yp⟩, hy⟩ : ∃ y, l[j]? = some y := ⟨_, List.getElem?_eq_getElem (by rw [HN.out]; omega)⟩
                    have KJ := Lib.hid (KX.out.trans HJ.out.1)
                    have SR := Lib.hid (show wr.drew.cell? ⟨b, o + j * 4, none⟩ = some (.string yn) ∧ wr.drew.cell? ⟨nb, 0, none⟩ = some (.string xn) from
                      ⟨cell_keeps (KB.out.trans KJ.out).drew' (HC.out j _ hy).1 (by simp), cell_keeps HJ.out.1.drew' CX.out (by simp)⟩)
                    have HY := Lib.hid hy
                    clear hy
                    by_cases hxy : yn = xn
                    · have hm : xn ∈ seenAt l i := by
                        unfold seenAt
                        refine List.mem_map.2 ⟨_, List.mem_of_getElem? (?_ : (l.take i)[j]? = some ⟨yn, yd, ya, yp⟩), hxy⟩
                        rw [List.getElem?_take_of_lt hji]; exact HY.out
                      obtain rfl : false = res := (HRES.out.symm.trans (mayGo_bad HX.out HI.out.2 (.inr (.inr hm)))).symm
                      have hxq : (yn.toList == xn.toList) = true := by rw [hxy]; simp
                      have hxs : yn.toList = xn.toList := by rw [hxy]
                      clear hm hxy
                      go_wp2_with fail
                      go_region_held3 (fun W => W.cell? ⟨b, o + j * 4, none⟩ = some (.string yn) ∧ W.cell? ⟨nb, 0, none⟩ = some (.string xn))
                        (exact SR.out)
                        (fail)
                      go_wp2_with fail
                      go_ret
                      exact ⟨rfl, (KB.out.trans KJ.out).drew'⟩
                    · have hxq : (yn.toList == xn.toList) = false := by rw [ba_toList]; exact decide_eq_false hxy
                      have hxs : ¬ yn.toList = xn.toList := fun e => by rw [e] at hxq; simp at hxq
                      have HXY := Lib.hid hxy
                      clear hxy
                      have HKD := Lib.hid HJ.out.1.drew'
                      go_wp2_with fail
                      go_region_held3 (fun W => W.cell? ⟨b, o + j * 4, none⟩ = some (.string yn) ∧ W.cell? ⟨nb, 0, none⟩ = some (.string xn))
                        (exact SR.out)
                        (fail)
                      go_wp2_with fail
                      exact ⟨⟨j + 1, by simp, by omega, Lib.hid ⟨HKD.out, by
                        intro y hy
                        rw [List.take_add_one, HY.out] at hy
                        rcases List.mem_append.1 hy with hy | hy
                        · exact HJ.out.2 y hy
                        · simp at hy; subst hy; exact HXY.out⟩⟩, by simp [intOf]; omega⟩
                  · obtain rfl : j = i := by omega
                    have hji' : ¬ (j : Int) < (j : Int) := by omega
                    have HGN := Lib.hid (mayGo_next HX.out HI.out.2 HNK.out HLD.out (by
                      intro hm
                      unfold seenAt at hm
                      obtain ⟨y, hy1, hy2⟩ := List.mem_map.1 hm
                      exact HJ.out.2 y hy1 hy2))
                    have KJ := Lib.hid (KX.out.trans HJ.out.1)
                    go_wp2_with fail
                    exact ⟨⟨j + 1, by simp, by omega, Lib.hid ⟨KJ.out, HGN.out⟩⟩, by simp [intOf]; omega⟩
              · have h2b : (xp == 0) = false := beq_eq_false_iff_ne.2 h2
                obtain rfl : false = res := (HRES.out.symm.trans (mayGo_bad HX.out HI.out.2 (.inr (.inl (show leadsOk c ⟨xn, true, xa, xp⟩ = false by simp [leadsOk, h1, h2]))))).symm
                clear HR3 C0 HRI
                go_wp2_with fail
                go_ret
                exact ⟨rfl, KB.out.trans K3.out⟩
            · have h1b : (xa == 0) = false := beq_eq_false_iff_ne.2 h1
              obtain rfl : false = res := (HRES.out.symm.trans (mayGo_bad HX.out HI.out.2 (.inr (.inl (show leadsOk c ⟨xn, true, xa, xp⟩ = false by simp [leadsOk, h1]))))).symm
              clear HR3 C0 HRI
              go_wp2_with fail
              go_ret
              exact ⟨rfl, KB.out.trans K3.out⟩
          | false =>
            by_cases h1 : xa = 0
            · have h1b : (xa == 0) = true := by rw [h1]; rfl
              obtain rfl : false = res := (HRES.out.symm.trans (mayGo_bad HX.out HI.out.2 (.inr (.inl (show leadsOk c ⟨xn, false, xa, xp⟩ = false by simp [leadsOk, h1]))))).symm
              clear HR3 C0 HRI
              go_wp2_with fail
              go_ret
              exact ⟨rfl, KB.out.trans K3.out⟩
            · have h1b : (xa == 0) = false := beq_eq_false_iff_ne.2 h1
              by_cases h2 : xp = 0
              · have h2b : (xp == 0) = true := by rw [h2]; rfl
                obtain rfl : false = res := (HRES.out.symm.trans (mayGo_bad HX.out HI.out.2 (.inr (.inl (show leadsOk c ⟨xn, false, xa, xp⟩ = false by simp [leadsOk, h2]))))).symm
                clear HR3 C0 HRI
                go_wp2_with fail
                go_ret
                exact ⟨rfl, KB.out.trans K3.out⟩
              · have h2b : (xp == 0) = false := beq_eq_false_iff_ne.2 h2
                by_cases h3 : xa = c.outer
                · have h3b : (xa == c.outer) = true := by rw [h3]; simp
                  obtain rfl : false = res := (HRES.out.symm.trans (mayGo_bad HX.out HI.out.2 (.inr (.inl (show leadsOk c ⟨xn, false, xa, xp⟩ = false by simp [leadsOk, h3]))))).symm
                  clear HR3 C0 HRI
                  go_wp2_with fail
                  go_ret
                  exact ⟨rfl, KB.out.trans K3.out⟩
                · have h3b : (xa == c.outer) = false := beq_eq_false_iff_ne.2 h3
                  have HIN := Lib.hid (HRI.out w3 xa)
                  obtain ⟨iz, hiz⟩ : ∃ iz, insideOf c xa = iz := ⟨_, rfl⟩
                  rw [hiz] at HIN
                  have HIZ := Lib.hid hiz
                  clear hiz
                  have h1' := h1
                  have h2' := h2
                  have h3' := h3
                  cases iz with
                  | true =>
                    obtain rfl : false = res := (HRES.out.symm.trans (mayGo_bad HX.out HI.out.2 (.inr (.inl (show leadsOk c ⟨xn, false, xa, xp⟩ = false by simp [leadsOk, HIZ.out]))))).symm
                    clear C0 HRI
                    go_wp2_with (with_reducible refine wpList_load_want 29 (.tmp 2) (by with_reducible rfl) (by simp [Region.wanted, yielded, h1, h2, h3, h1b, h2b, h3b]) cb 0 (by with_unfolding_all rfl) _ _ HR3.out Tryd.underlying29 (by with_unfolding_all rfl) (by rw [HCL.out.1]; kernel_rfl) ?_)
                    refine HIN.out.mono ?_
                    rintro e w4 ⟨rfl, k4⟩
                    have K4 := Lib.hid (K3.out.trans k4)
                    clear k4 c0 c1 c2 c3 o2
                    go_wp2_with fail
                    go_ret
                    exact ⟨rfl, KB.out.trans K4.out⟩
                  | false =>
                    have HLD := Lib.hid (show leadsOk c ⟨xn, false, xa, xp⟩ = true by simp [leadsOk, h1, h2, h3, HIZ.out])
                    go_wp2_with (with_reducible refine wpList_load_want 29 (.tmp 2) (by with_reducible rfl) (by simp [Region.wanted, yielded, h1, h2, h3, h1', h2', h3', h1b, h2b, h3b]) cb 0 (by with_unfolding_all rfl) _ _ HR3.out Tryd.underlying29 (by with_unfolding_all rfl) (by rw [HCL.out.1]; kernel_rfl) ?_)
                    refine HIN.out.mono ?_
                    rintro e w4 ⟨rfl, k4⟩
                    have KX := Lib.hid (K3.out.trans k4)
                    have CX := Lib.hid (cell_keeps k4 C0.out (by simp))
                    clear k4 HR3 C0 HRI c0 c1 c2 c3 o2
                    go_wp2_with fail
                    go_loopw [11] (fun jv wr => ∃ j : Nat, jv = .int .i64 j ∧ j ≤ i ∧ Hid (Keeps [] w4 wr ∧ ∀ y ∈ l.take j, ¬ y.name = xn)) (fun jv _ => i - (intOf jv).toNat)
                    case atStart => exact ⟨0, rfl, by omega, Lib.hid ⟨Keeps.refl _ _, by simp⟩⟩
                    case round =>
                      obtain ⟨j, rfl, hj, HJ⟩ := hrel
                      by_cases hji : j < i
                      · have hji' : (j : Int) < i := by omega
                        have hj0 : (0 : Int) ≤ j := by omega
                        have hjn : (j : Int) < n := by omega
                        obtain ⟨⟨yn, yd, ya, yp⟩, hy⟩ : ∃ y, l[j]? = some y := ⟨_, List.getElem?_eq_getElem (by rw [HN.out]; omega)⟩
                        have KJ := Lib.hid (KX.out.trans HJ.out.1)
                        have SR := Lib.hid (show wr.drew.cell? ⟨b, o + j * 4, none⟩ = some (.string yn) ∧ wr.drew.cell? ⟨nb, 0, none⟩ = some (.string xn) from
                          ⟨cell_keeps (KB.out.trans KJ.out).drew' (HC.out j _ hy).1 (by simp), cell_keeps HJ.out.1.drew' CX.out (by simp)⟩)
                        have HY := Lib.hid hy
                        clear hy
                        by_cases hxy : yn = xn
                        · have hm : xn ∈ seenAt l i := by
                            unfold seenAt
                            refine List.mem_map.2 ⟨_, List.mem_of_getElem? (?_ : (l.take i)[j]? = some ⟨yn, yd, ya, yp⟩), hxy⟩
                            rw [List.getElem?_take_of_lt hji]; exact HY.out
                          obtain rfl : false = res := (HRES.out.symm.trans (mayGo_bad HX.out HI.out.2 (.inr (.inr hm)))).symm
                          have hxq : (yn.toList == xn.toList) = true := by rw [hxy]; simp
                          have hxs : yn.toList = xn.toList := by rw [hxy]
                          clear hm hxy
                          go_wp2_with fail
                          go_region_held3 (fun W => W.cell? ⟨b, o + j * 4, none⟩ = some (.string yn) ∧ W.cell? ⟨nb, 0, none⟩ = some (.string xn))
                            (exact SR.out)
                            (fail)
                          go_wp2_with fail
                          go_ret
                          exact ⟨rfl, (KB.out.trans KJ.out).drew'⟩
                        · have hxq : (yn.toList == xn.toList) = false := by rw [ba_toList]; exact decide_eq_false hxy
                          have hxs : ¬ yn.toList = xn.toList := fun e => by rw [e] at hxq; simp at hxq
                          have HXY := Lib.hid hxy
                          clear hxy
                          have HKD := Lib.hid HJ.out.1.drew'
                          go_wp2_with fail
                          go_region_held3 (fun W => W.cell? ⟨b, o + j * 4, none⟩ = some (.string yn) ∧ W.cell? ⟨nb, 0, none⟩ = some (.string xn))
                            (exact SR.out)
                            (fail)
                          go_wp2_with fail
                          exact ⟨⟨j + 1, by simp, by omega, Lib.hid ⟨HKD.out, by
                            intro y hy
                            rw [List.take_add_one, HY.out] at hy
                            rcases List.mem_append.1 hy with hy | hy
                            · exact HJ.out.2 y hy
                            · simp at hy; subst hy; exact HXY.out⟩⟩, by simp [intOf]; omega⟩
                      · obtain rfl : j = i := by omega
                        have hji' : ¬ (j : Int) < (j : Int) := by omega
                        have HGN := Lib.hid (mayGo_next HX.out HI.out.2 HNK.out HLD.out (by
                          intro hm
                          unfold seenAt at hm
                          obtain ⟨y, hy1, hy2⟩ := List.mem_map.1 hm
                          exact HJ.out.2 y hy1 hy2))
                        have KJ := Lib.hid (KX.out.trans HJ.out.1)
                        go_wp2_with fail
                        exact ⟨⟨j + 1, by simp, by omega, Lib.hid ⟨KJ.out, HGN.out⟩⟩, by simp [intOf]; omega⟩
      · obtain rfl : i = n := by omega
        obtain rfl : true = res := by
          rw [← HRES.out]
          unfold mayL
          rw [HI.out.2, List.drop_of_length_le (by rw [HN.out]; exact Nat.le_refl _), mayGo, HN.out, Bool.true_and, decide_eq_true (by omega)]
        have KZ := Lib.hid (KB.out.trans HI.out.1)
        have hlt' : ¬ (i : Int) < (i : Int) := by omega
        go_wp2_with fail
        go_ret
        exact ⟨rfl, KZ.out⟩
end Go.Proofs.YtbmkdnkiojapbaaDoor
