/-
  The law HttpAuthority: the walk, over its arguments as they come in. Condition: the library's variables lie as listed; a contract of strings.ContainsAny (CAny).
-/
import Derived.Test.YtjppfdilfcokeaaDoorHttpU
import Derived.Test.YtjppfdilfcokeaaDoorHttpRep
import Derived.Test.YtjppfdilfcokeaaDoorHttpComes
import Derived.Test.YtjppfdilfcokeaaDoorFoldQ
import Derived.Shelf.Strings.Cut
import Derived.Deep.RegionHeld3
namespace Go.Proofs.YtjppfdilfcokeaaDoor
open Go.RowKit Go.Lib
set_option linter.unusedVariables false
set_option linter.unusedSimpArgs false

theorem index_col : ∀ s : List UInt8, (index s [58] = -1 ∧ 58 ∉ s) ∨ ∃ (p q : List UInt8), index s [58] = (p.length : Int) ∧ s = p ++ 58 :: q ∧ 58 ∉ p
  | [] => by left; exact ⟨by decide, by simp⟩
  | c :: t => by
    by_cases hc : c = 58
    · subst hc
      right
      exact ⟨[], t, by simp [index], rfl, by simp⟩
    · have hp : ([58] : List UInt8).isPrefixOf (c :: t) = false := by
        simp [List.isPrefixOf]; exact fun e => hc e.symm
      rcases index_col t with ⟨h1, h2⟩ | ⟨p, q, h1, h2, h3⟩
      · left
        refine ⟨?_, by simp [h2]; exact fun e => hc e.symm⟩
        unfold index
        rw [hp, h1]; rfl
      · right
        refine ⟨c :: p, q, ?_, by rw [h2]; rfl, by simp [h3]; exact fun e => hc e.symm⟩
        unfold index
        rw [hp, h1]
        have : ¬ ((p.length : Int) == -1) = true := fun e => by have := beq_iff_eq.1 e; omega
        rw [if_neg (by simp), if_neg this]
        simp
theorem cut_cat : ∀ (p q : List UInt8), 58 ∉ p → cutC (p ++ 58 :: q) = (p, q, true)
  | [], q, _ => by simp [cutC]
  | c :: p, q, h => by
    simp only [List.mem_cons, not_or] at h
    have hc : ¬ c = 58 := fun e => h.1 e.symm
    simp [cutC, hc, cut_cat p q h.2]
theorem cut_none : ∀ p : List UInt8, 58 ∉ p → cutC p = (p, [], false)
  | [], _ => rfl
  | c :: p, h => by
    simp only [List.mem_cons, not_or] at h
    have hc : ¬ c = 58 := fun e => h.1 e.symm
    simp [cutC, hc, cut_none p h.2]
theorem cut_eq (s : List UInt8) : Lib.cut s [58] = cutC s := by
  unfold Lib.cut
  rcases index_col s with ⟨h1, h2⟩ | ⟨p, q, h1, h2, h3⟩
  · rw [h1, if_neg (by omega), cut_none s h2]
  · rw [h1, if_pos (by omega)]
    subst h2
    rw [cut_cat p q h3]
    simp only [Int.toNat_natCast, List.length_cons, List.length_nil, Nat.zero_add]
    rw [List.take_left', show p ++ 58 :: q = (p ++ [58]) ++ q by simp, List.drop_append_of_le_length (by simp)]
    · simp
    · rfl
theorem okA_chars {s : List UInt8} (h : okA s = true) : s.all hostcolB = true := by
  unfold okA at h
  rw [Bool.and_eq_true] at h
  obtain ⟨low, hl⟩ := Option.isSome_iff_exists.1 h.1
  have hh := good58 hl
  rw [List.all_eq_true]
  intro c hc
  unfold hostcolB
  rcases cut_spec s with ⟨c1, _⟩ | ⟨x, p, c1, _, c3⟩
  · rw [c1] at hh
    rw [hh c hc]; rfl
  · rw [c3] at hh h
    rw [c1] at hc
    rcases List.mem_append.1 hc with hx | hx
    · rw [hh c hx]; rfl
    · rcases List.mem_cons.1 hx with he | hp
      · rw [he]; decide
      · have hp2 : p.all digB = true := by
          have h2 := h.2
          simp only [Bool.not_true, Bool.false_or] at h2
          unfold okP at h2
          simp only [Bool.and_eq_true] at h2
          exact h2.1.1.2
        have hd := List.all_eq_true.1 hp2 c hp
        have : hostB c = true := by unfold hostB; rw [hd]; simp
        rw [this]; rfl
theorem authR_eq {s : List UInt8} (hs : s.all cleanB = true) : authR s = if okA s then (foldN (cutC s).1, true) else ([], false) := by
  unfold authR
  rw [look_uri hs]
  cases ho : okA s with
  | true => rw [okA_chars ho]; simp
  | false => simp
def CAny (s : List UInt8) : Prop := ∀ w : World, LW w → Calls Tryd.prog 17 #[.string (bs s), .string ⟨#[32, 9, 13, 10, 47, 63]⟩] w fun e w' => ∃ b, e = .returned (.bool b) ∧ (b = false → s.all cleanB = true) ∧ Keeps [] w w'
theorem rep_any (w : World) (x : UInt8) (c : Nat) (hc : c ≤ 2000) : Calls Tryd.prog 16 #[.string (bs [x]), .int .i64 c] w fun e w' => e = .returned (.string (bs (Lib.repeatL [x] c))) ∧ Keeps [] w w' :=
  (Any.strings_Repeat Tryd.repL Tryd.repX (bs [x]) c w (by omega) (by show 1 * c ≤ _; omega)).mono fun e w' ⟨h, k⟩ => ⟨h, Below.keeps k⟩
theorem scut_any (w : World) (hw : LW w) (s : List UInt8) (hs : s.length ≤ 300) : Calls Tryd.prog 19 #[.string (bs s), .string ⟨#[58]⟩] w fun e w' => e = .returned (.tuple #[.string (bs (cutC s).1), .string (bs (cutC s).2.1), .bool (cutC s).2.2]) ∧ Keeps [] w w' := by
  obtain ⟨m, hm⟩ := hw.maxl
  refine (Any.strings_Cut { Tryd.cutL with } (bs s) ⟨#[58]⟩ m w (by rw [bs_size]; omega) hm).mono ?_
  rintro e w' ⟨h1, n, rfl⟩
  have e1 : Lib.cut (bs s).data.toList (⟨#[58]⟩ : ByteArray).data.toList = cutC s := cut_eq s
  rw [e1] at h1
  exact ⟨h1, Keeps.drewN [] w n⟩
/-- what the port's loop comes to -/
def portOk (is : Bool) (p : List UInt8) : Bool := !is || okP p
theorem wrap_mod4 (b : Nat) : IntKind.i64.wrap (((b : Nat) : Int).tmod 4) = ((b % 4 : Nat) : Int) := by
  have h : ((b : Nat) : Int).tmod 4 = ((b % 4 : Nat) : Int) := by
    rw [Int.tmod_eq_emod_of_nonneg (by omega)]
    omega
  rw [h, IntKind.wrap_i64]
  omega
theorem portN_snoc (n : Nat) (z : List UInt8) (c : UInt8) : portN n (z ++ [c]) = 10 * portN n z + (c.toNat - 48) := by
  unfold portN
  rw [List.foldl_append, List.foldl_cons, List.foldl_nil]
  unfold stepN
  exact Eq.refl _
set_option maxRecDepth 100000 in
set_option maxHeartbeats 16000000 in
theorem auth_walk (w : World) (hw : LW w) (s : List UInt8) (hca : s.length ≤ 300 → CAny s) (hsm : s.length ≤ 9223372036854775807) (b0 b1 : Nat) (hb0 : b0 < 256) (hb1 : b1 < 256) :
    Calls Tryd.prog 7 #[.string (bs s), .agg #[.int .u8 b0, .int .u8 b1]] w fun e w' => e = .returned (.bool true) ∧ Keeps [] w w' := by
  obtain ⟨ab, hab⟩ : ∃ ab, w.heap.size = ab := ⟨_, rfl⟩
  obtain ⟨w1, hw1⟩ : ∃ w1, w.alloc (.cells #[.int .u8 b0, .int .u8 b1] 46) = w1 := ⟨_, rfl⟩
  have k1 : Keeps [] w w1 := by rw [← hw1]; exact Keeps.alloc [] w _
  have hb : w1.heap[ab]? = some (.cells #[.int .u8 b0, .int .u8 b1] 46 (0, 0)) := by rw [← hw1, ← hab]; exact (MapKept.heap_alloc w _).1
  have HB := Lib.hid (And.intro (show w1.cell? ⟨ab, 0, none⟩ = some (.int .u8 b0) from cell_of_block hb 0) (show w1.cell? ⟨ab, 1, none⟩ = some (.int .u8 b1) from cell_of_block hb 1))
  have HW := Lib.hid hw
  have HK1 := Lib.hid k1
  have hsz : (bs s).size = s.length := rfl
  have HCAP := Lib.hid (fun (h : s.length ≤ 300) => hca h w1 (hw.keep0 k1))
  have HWK1 := Lib.hid (wakes_any w1 (hw.keep0 k1))
  clear hw k1 hb hca
  by_cases h300 : 300 < s.length
  · have h300I : (300 : Int) < (s.length : Int) := by omega
    clear h300
    go_enter Tryd.func7, Tryd.ntmps7
    go_wp2_with fail
    refine HWK1.out.mono ?_
    rintro e w2 ⟨rfl, k2⟩
    have HK2 := Lib.hid (HK1.out.trans k2)
    clear k2 HWK1
    go_wp2_with fail
    go_ret
    exact ⟨rfl, HK2.out⟩
  · have h300I : ¬ (300 : Int) < (s.length : Int) := by omega
    have HCA := Lib.hid (HCAP.out (by omega))
    go_enter Tryd.func7, Tryd.ntmps7
    go_wp2_with fail
    refine HCA.out.mono ?_
    rintro e w2 ⟨cb, rfl, hcl, k2⟩
    have HK2 := Lib.hid (HK1.out.trans k2)
    have HB2 := Lib.hid (And.intro (cell_keeps k2 HB.out.1 (by simp)) (cell_keeps k2 HB.out.2 (by simp)))
    have HCL := Lib.hid hcl
    clear k2 hcl HCA HWK1 HB hw1 hab
    cases cb with
    | true =>
      have HWK := Lib.hid (wakes_any w2 (HW.out.keep0 HK2.out))
      go_wp2_with fail
      refine HWK.out.mono ?_
      rintro e w3 ⟨rfl, k3⟩
      have HK3 := Lib.hid (HK2.out.trans k3)
      clear k3 HWK
      go_wp2_with fail
      go_ret
      exact ⟨rfl, HK3.out⟩
    | false =>
      have hcs := HCL.out rfl
      have HCS := Lib.hid hcs
      have HAU := Lib.hid (authority_any w2 (HW.out.keep0 HK2.out) s (by omega))
      rw [authR_eq hcs] at HAU
      clear hcs HCL h300I
      obtain ⟨AR, hAR⟩ : ∃ AR, (if okA s then (foldN (cutC s).1, true) else ([], false)) = AR := ⟨_, rfl⟩
      rw [hAR] at HAU
      have HAR := Lib.hid hAR
      clear hAR
      obtain ⟨hh, hhh⟩ : ∃ x, (cutC s).1 = x := ⟨_, rfl⟩
      have hhE := Lib.hid hhh
      obtain ⟨pp, hpp⟩ : ∃ x, (cutC s).2.1 = x := ⟨_, rfl⟩
      obtain ⟨is, his⟩ : ∃ x, (cutC s).2.2 = x := ⟨_, rfl⟩
      have hokA : okA s = ((foldA hh).isSome && portOk is pp) := by rw [← hhh, ← hpp, ← his]; rfl
      have HOKA := Lib.hid hokA
      have hpl : pp.length ≤ 300 ∧ (is = false → pp = []) := by
        rcases cut_spec s with ⟨c1, _⟩ | ⟨x, p, c1, _, c3⟩
        · rw [c1] at hpp his
          simp only at hpp his
          rw [← hpp]
          simp
        · rw [c3] at hpp his
          simp only at hpp his
          have : p.length ≤ s.length := by rw [c1]; simp; omega
          rw [← hpp, ← his]
          exact ⟨by omega, by simp⟩
      have HPL := Lib.hid hpl
      go_wp2_with fail
      refine HAU.out.mono ?_
      rintro e w3 ⟨rfl, k3⟩
      have HK3 := Lib.hid (HK2.out.trans k3)
      have HB3 := Lib.hid (And.intro (cell_keeps k3 HB2.out.1 (by simp)) (cell_keeps k3 HB2.out.2 (by simp)))
      have HCT := Lib.hid (scut_any w3 (HW.out.keep0 (HK2.out.trans k3)) s (by omega))
      rw [hhh, hpp, his] at HCT
      clear k3 HAU HB2 hokA hpl hpp his
      go_wp2_with fail
      refine HCT.out.mono ?_
      rintro e w4 ⟨rfl, k4⟩
      have HK4 := Lib.hid (HK3.out.trans k4)
      have HB4 := Lib.hid (And.intro (cell_keeps k4 HB3.out.1 (by simp)) (cell_keeps k4 HB3.out.2 (by simp)))
      have HFO := Lib.hid (fold_any w4 (HW.out.keep0 (HK3.out.trans k4)) (bs hh))
      rw [foldIs_bs, foldB_bs] at HFO
      clear k4 HCT HB3
      go_wp2_with fail
      refine HFO.out.mono ?_
      rintro e w5 ⟨rfl, k5⟩
      have HK5 := Lib.hid (HK4.out.trans k5)
      have HB5 := Lib.hid (And.intro (cell_keeps k5 HB4.out.1 (by simp)) (cell_keeps k5 HB4.out.2 (by simp)))
      clear k5 HFO HB4
      obtain ⟨fi, hfi⟩ : ∃ fi, (foldA hh).isSome = fi := ⟨_, rfl⟩
      rw [hfi]
      have HFI := Lib.hid hfi
      clear hfi
      go_upto_block 0 with fail
      go_cut [11, 12] (fun ov nv wx => ∃ (okv : Bool) (n : Nat), ov = .bool okv ∧ nv = .int .i64 n ∧ n ≤ 1000000 ∧ (okv && (!is || !pp.isEmpty) && decide (n ≤ 65535)) = okA s ∧ wx = w5)
      case first =>
        have hps : (bs pp).size = pp.length := rfl
        go_wp2_with fail
        go_loopg [11, 12, 13] pp.length (fun g ov nv iv wx => wx = w5 ∧ ov = .bool fi ∧ ∃ pre post : List UInt8, pp = pre ++ post ∧ g = post.length ∧ iv = .int .i64 pre.length ∧ nv = .int .i64 (portN 0 pre) ∧ pre.all digB = true ∧ pre.length ≤ 5 ∧ portN 0 pre < 10 ^ pre.length)
        case atStart => exact ⟨rfl, rfl, [], pp, rfl, rfl, rfl, by rw [portN_nil]; rfl, rfl, by simp, by rw [portN_nil]; simp⟩
        case round =>
          obtain ⟨rfl, rfl, pre, post, hsp, hg, rfl, rfl, hpd, hp5, hpv⟩ := hrel
          subst hg
          have hll : pp.length = pre.length + post.length := by rw [hsp]; simp
          obtain ⟨nv, hnv⟩ : ∃ nv, portN 0 pre = nv := ⟨_, rfl⟩
          rw [hnv] at hpv ⊢
          have hn5 : nv < 100000 := Nat.lt_of_lt_of_le hpv (by
            have := Nat.pow_le_pow_right (n := 10) (by omega) hp5
            simpa using this)
          have HNV := Lib.hid (And.intro hnv (And.intro hpd hpv))
          have HSP := Lib.hid hsp
          cases post with
          | nil =>
            have hlt : ¬ (pre.length : Int) < (pp.length : Int) := by simp at hll; omega
            have hpe : pre = pp := by rw [hsp]; simp
            have hfin : (fi && (!is || !pp.isEmpty) && decide (nv ≤ 65535)) = okA s := by
              rw [HOKA.out, HFI.out]
              unfold portOk okP
              rw [← hpe, hpd, hnv]
              cases is with
              | false =>
                have hp0 : pre = [] := by rw [hpe]; exact HPL.out.2 rfl
                have h0 : nv = 0 := by rw [← hnv, hp0]; rfl
                simp [h0]
              | true => simp [hp5, Bool.and_assoc]
            have HFIN := Lib.hid hfin
            clear hnv hpd hpv hsp hll hpe hfin
            go_wp2_with fail
            go_meet
            exact ⟨fi, nv, rfl, rfl, by omega, HFIN.out, rfl⟩
          | cons c post =>
            have hlt : (pre.length : Int) < (pp.length : Int) := by simp at hll; omega
            have hlt3 : pre.length < (bs pp).size := by rw [hps]; simp at hll; omega
            have hg2 : (bs pp)[pre.length]'hlt3 = c := bs_take pp pre.length c (by rw [hsp]; simp) hlt3
            have hist : is = true := by
              cases is with
              | true => rfl
              | false => have := HPL.out.2 rfl; rw [hsp] at this; simp at this
            subst hist
            clear hnv hpd hpv hsp hll
            have hbadF : (digB c = false ∨ 5 ≤ pre.length) → (false && (!true || !pp.isEmpty) && decide (nv ≤ 65535)) = okA s := by
              intro hbd
              rw [HOKA.out]
              have hk : okP pp = false := by
                unfold okP
                rcases hbd with h | h
                · have : pp.all digB = false := by rw [HSP.out]; simp [h]
                  rw [this]; simp
                · have : decide (pp.length ≤ 5) = false := decide_eq_false (by rw [HSP.out]; simp; omega)
                  rw [this]; simp
              simp [portOk, hk]
            by_cases h48 : (c.toNat : Int) < 48
            · have HBF := Lib.hid (hbadF (.inl (by unfold digB; simp; omega)))
              clear hbadF
              go_wp2_with fail
              go_meet
              exact ⟨false, nv, rfl, rfl, by omega, HBF.out, rfl⟩
            · by_cases h57 : (57 : Int) < (c.toNat : Int)
              · have HBF := Lib.hid (hbadF (.inl (by unfold digB; simp; omega)))
                clear hbadF
                go_wp2_with fail
                go_meet
                exact ⟨false, nv, rfl, rfl, by omega, HBF.out, rfl⟩
              · by_cases h5 : (5 : Int) ≤ (pre.length : Int)
                · have HBF := Lib.hid (hbadF (.inr (by omega)))
                  clear hbadF
                  go_wp2_with fail
                  go_meet
                  exact ⟨false, nv, rfl, rfl, by omega, HBF.out, rfl⟩
                · have hcd : digB c = true := by unfold digB; simp; omega
                  have hdw := dig_wrap hcd
                  have hdg := dig_val hcd
                  have HCD := Lib.hid hcd
                  obtain ⟨dg, hdge⟩ : ∃ dg, c.toNat - 48 = dg := ⟨_, rfl⟩
                  rw [hdge] at hdw hdg
                  have HDG := Lib.hid hdge
                  clear hbadF hcd hdge
                  go_wp2_with fail
                  clear hdw
                  go_roundg post.length
                  case measure => simp
                  case rel => exact ⟨rfl, rfl, pre ++ [c], post, by rw [HSP.out]; simp, rfl, by simp, by rw [portN_snoc, HNV.out.1, HDG.out]; go_num, by rw [List.all_append, HNV.out.2.1]; simp [HCD.out], by simp; omega, by rw [portN_snoc, HNV.out.1, HDG.out, List.length_append, List.length_singleton, Nat.pow_succ]; have := HNV.out.2.2; omega⟩
      case rest =>
        obtain ⟨okv, n, rfl, rfl, hn, hok, hwx⟩ := hcut
        obtain rfl := hwx.symm
        clear hwx
        have HOK := Lib.hid hok
        clear hok
        go_upto_region 13 with fail
        go_cut [11] (fun ov wx => ov = .bool (okA s) ∧ wx = w5)
        case first =>
          have hfz : (n : Int) ≤ 65535 ∨ ¬ (n : Int) ≤ 65535 := Classical.em _
          have hdec : decide ((n : Int) ≤ 65535) = decide (n ≤ 65535) := decide_eq_decide.2 (by omega)
          cases okv with
          | false =>
            go_wp2_with fail
            go_meet
            exact ⟨by rw [← HOK.out]; rfl, rfl⟩
          | true =>
            cases is with
            | false =>
              go_wp2_with fail
              go_meet
              exact ⟨by rw [← HOK.out, ← hdec]; simp, rfl⟩
            | true =>
              cases pp with
              | nil =>
                have hE : (bs []).toList.isEmpty = true := by rw [Lib.toList_data]; rfl
                go_wp2_with fail
                go_meet
                exact ⟨by rw [← HOK.out]; simp, rfl⟩
              | cons p0 pp =>
                have hE := bs_empty p0 pp
                go_wp2_with fail
                go_meet
                exact ⟨by rw [← HOK.out, ← hdec]; simp, rfl⟩
        case rest =>
          obtain ⟨rfl, hwx⟩ := hcut
          obtain rfl := hwx.symm
          clear hwx HOK hn
          have HOS := Lib.hid (show lookH (uriB s) = if okA s then (1, foldN (cutC s).1) else (3, []) from look_uri HCS.out)
          have HPS := Lib.hid (fun (h : okA s = true) => look_path h)
          have HLS := Lib.hid (fun (l r : List UInt8) (hl : ∀ b ∈ l, blankB b = true) (hr : ∀ b ∈ r, b = 9) => look_line (left := l) (right := r) hl hr HCS.out)
          rw [hhE.out] at HOS HPS HLS
          obtain ⟨ok, hoke⟩ : ∃ ok, okA s = ok := ⟨_, rfl⟩
          have HOKE := Lib.hid hoke
          have har : AR = if ok then (foldN hh, true) else ([], false) := by rw [← HAR.out, hoke, hhE.out]
          rw [hoke] at HOS HPS HLS ⊢
          clear hoke
          have HNE := Lib.hid (show ok = true → foldN hh ≠ [] from fun h => by
            have h1 : okA s = true := by rw [HOKE.out]; exact h
            unfold okA at h1
            rw [Bool.and_eq_true, hhE.out] at h1
            obtain ⟨l, hl⟩ := Option.isSome_iff_exists.1 h1.1
            have : foldN hh = l := by unfold foldN; rw [hl]; rfl
            rw [this]
            exact (foldA_some (foldA_again hl)).1)
          obtain ⟨fn, hfn⟩ : ∃ fn, foldN hh = fn := ⟨_, rfl⟩
          rw [hfn] at har HOS HPS HLS HNE ⊢
          subst har
          clear hfn HAR HOKA HFI HPL
          have HSL := Lib.hid (show s.length ≤ 300 by omega)
          cases ok with
          | false =>
            simp only [if_true, if_false, Bool.false_eq_true] at HOS HLS ⊢
            have hE0 := bs_nil_empty
            skip
            have HBD := Lib.hid (show w5.drew.cell? ⟨ab, 0, none⟩ = some (.int .u8 b0) ∧ w5.drew.cell? ⟨ab, 1, none⟩ = some (.int .u8 b1) from ⟨HB5.out.1, HB5.out.2⟩)
            obtain ⟨L0, hL0⟩ : ∃ l, Lib.repeatL [32] (b0 % 4) = l := ⟨_, rfl⟩
            obtain ⟨L1, hL1⟩ : ∃ l, Lib.repeatL [9] (b1 % 4) = l := ⟨_, rfl⟩
            have HR0 := Lib.hid (fun (x : World) => rep_any x 32 (b0 % 4) (by omega))
            have HR1 := Lib.hid (fun (x : World) => rep_any x 9 (b1 % 4) (by omega))
            rw [hL0] at HR0
            rw [hL1] at HR1
            have HE0 := Lib.hid (wrap_mod4 b0)
            have HE1 := Lib.hid (wrap_mod4 b1)
            have HL0 := Lib.hid (show (∀ b ∈ L0, blankB b = true) ∧ L0.length ≤ 3 by
              have : b0 % 4 = 0 ∨ b0 % 4 = 1 ∨ b0 % 4 = 2 ∨ b0 % 4 = 3 := by omega
              rw [← hL0]
              rcases this with h | h | h | h <;> rw [h] <;> decide)
            have HL1 := Lib.hid (show (∀ b ∈ L1, b = 9) ∧ L1.length ≤ 3 by
              have : b1 % 4 = 0 ∨ b1 % 4 = 1 ∨ b1 % 4 = 2 ∨ b1 % 4 = 3 := by omega
              rw [← hL1]
              rcases this with h | h | h | h <;> rw [h] <;> decide)
            clear hL0 hL1
            go_upto_region 16 with fail
            go_cut [14, 15] (fun lv rv wx => lv = .string (bs L0) ∧ rv = .string (bs L1) ∧ Hid (Keeps [] w5 wx))
            case first =>
              refine wp_region_held_drew (S := fun W => W.cell? ⟨ab, 0, none⟩ = some (.int .u8 b0) ∧ W.cell? ⟨ab, 1, none⟩ = some (.int .u8 b1)) (by kernel_rfl) ?hSqa (fun hHeld => ?_)
              case hSqa => exact HBD.out
              refine wpAnyH_take (i := 0) (oi := _) (v := ?qa0) rfl (by kernel_rfl) (by kernel_rfl) (by kernel_rfl) (fun _ _ _ h => h) (Or.inl ⟨by rfl, ?hyqa0⟩) (by assumption) ?restqa0
              case hyqa0 => (intro w hSw; (try dsimp only at hSw); go_simp; try (with_reducible rfl))
              try simp only [List.getElem_toArray, List.getElem_cons_zero, List.getElem_cons_succ, Act.put, List.setIfInBounds_toArray, List.set_cons_zero, List.set_cons_succ]
              refine wpAnyH_take (i := 1) (oi := _) (v := ?qa1) rfl (by kernel_rfl) (by kernel_rfl) (by kernel_rfl) (fun _ _ _ h => h) (Or.inl ⟨by rfl, ?hyqa1⟩) (by assumption) ?restqa1
              case hyqa1 => (intro w hSw; (try dsimp only at hSw); go_simp; try (with_reducible rfl))
              try simp only [List.getElem_toArray, List.getElem_cons_zero, List.getElem_cons_succ, Act.put, List.setIfInBounds_toArray, List.set_cons_zero, List.set_cons_succ]
              refine wpAnyH_take (i := 2) (oi := _) (v := ?qa2) rfl (by kernel_rfl) (by kernel_rfl) (by kernel_rfl) (fun _ _ _ h => h) (Or.inl ⟨by rfl, ?hyqa2⟩) (by assumption) ?restqa2
              case hyqa2 => (intro w hSw; (try dsimp only at hSw); go_simp; try (with_reducible rfl))
              try simp only [List.getElem_toArray, List.getElem_cons_zero, List.getElem_cons_succ, Act.put, List.setIfInBounds_toArray, List.set_cons_zero, List.set_cons_succ]
              refine wpAnyH_take (i := 3) (oi := _) (v := ?qa3) rfl (by kernel_rfl) (by kernel_rfl) (by kernel_rfl) (fun _ _ _ h => h) (Or.inl ⟨by rfl, ?hyqa3⟩) (by assumption) ?restqa3
              case hyqa3 => (intro w hSw; (try dsimp only at hSw); go_simp; try (with_reducible rfl))
              try simp only [List.getElem_toArray, List.getElem_cons_zero, List.getElem_cons_succ, Act.put, List.setIfInBounds_toArray, List.set_cons_zero, List.set_cons_succ]
              refine wpAnyH_take (i := 5) (oi := _) (v := ?qa5) rfl (by kernel_rfl) (by kernel_rfl) (by kernel_rfl) (fun _ _ _ h => h) (Or.inl ⟨by rfl, ?hyqa5⟩) (by assumption) ?restqa5
              case hyqa5 => (intro w hSw; (try dsimp only at hSw); go_simp; try (with_reducible rfl))
              try simp only [List.getElem_toArray, List.getElem_cons_zero, List.getElem_cons_succ, Act.put, List.setIfInBounds_toArray, List.set_cons_zero, List.set_cons_succ]
              refine wpAnyH_take (i := 6) (oi := _) (v := ?qa6) rfl (by kernel_rfl) (by kernel_rfl) (by kernel_rfl) (fun _ _ _ h => h) (Or.inl ⟨by rfl, ?hyqa6⟩) (by assumption) ?restqa6
              case hyqa6 => (intro w hSw; (try dsimp only at hSw); go_simp; try (with_reducible rfl))
              try simp only [List.getElem_toArray, List.getElem_cons_zero, List.getElem_cons_succ, Act.put, List.setIfInBounds_toArray, List.set_cons_zero, List.set_cons_succ]
              refine wpAnyH_take (i := 7) (oi := _) (v := ?qa7) rfl (by kernel_rfl) (by kernel_rfl) (by kernel_rfl) (fun _ _ _ h => h) (Or.inl ⟨by rfl, ?hyqa7⟩) (by assumption) ?restqa7
              case hyqa7 => (intro w hSw; (try dsimp only at hSw); go_simp; try (with_reducible rfl))
              try simp only [List.getElem_toArray, List.getElem_cons_zero, List.getElem_cons_succ, Act.put, List.setIfInBounds_toArray, List.set_cons_zero, List.set_cons_succ]
              refine wpAnyH_take (i := 8) (oi := _) (v := ?qa8) rfl (by kernel_rfl) (by kernel_rfl) (by kernel_rfl) (fun _ _ _ h => h) (Or.inl ⟨by rfl, ?hyqa8⟩) (by assumption) ?restqa8
              case hyqa8 => (intro w hSw; (try dsimp only at hSw); go_simp; try (with_reducible rfl))
              try simp only [List.getElem_toArray, List.getElem_cons_zero, List.getElem_cons_succ, Act.put, List.setIfInBounds_toArray, List.set_cons_zero, List.set_cons_succ]
              refine wpAnyH_ready (rs := [4]) (by kernel_rfl) (by simp) ?_
              refine AllReadyH.cons (o := _) rfl (fun K hK => ?_) AllReadyH.nil
              try simp only [List.getElem_toArray, List.getElem_cons_zero, List.getElem_cons_succ, Act.put, List.setIfInBounds_toArray, List.set_cons_zero, List.set_cons_succ]
              go_simp
              rw [HE0.out]
              refine (HR0.out _).mono ?_
              rintro e w7 ⟨rfl, hk7⟩
              refine hK.out _ _ ⟨cell_keeps hk7 HBD.out.1 (by simp), cell_keeps hk7 HBD.out.2 (by simp)⟩ (fun hHeld2 => ?_)
              clear hK K
              try simp only [List.getElem_toArray, List.getElem_cons_zero, List.getElem_cons_succ, Act.put, List.setIfInBounds_toArray, List.set_cons_zero, List.set_cons_succ]
              refine wpAnyH_ready (rs := [9]) (by kernel_rfl) (by simp) ?_
              refine AllReadyH.cons (o := _) rfl (fun K hK => ?_) AllReadyH.nil
              try simp only [List.getElem_toArray, List.getElem_cons_zero, List.getElem_cons_succ, Act.put, List.setIfInBounds_toArray, List.set_cons_zero, List.set_cons_succ]
              go_simp
              rw [HE1.out]
              refine (HR1.out _).mono ?_
              rintro e w8 ⟨rfl, hk8⟩
              refine hK.out _ _ ⟨cell_keeps (hk7.trans hk8) HBD.out.1 (by simp), cell_keeps (hk7.trans hk8) HBD.out.2 (by simp)⟩ (fun hHeld3 => ?_)
              clear hK K
              try simp only [List.getElem_toArray, List.getElem_cons_zero, List.getElem_cons_succ, Act.put, List.setIfInBounds_toArray, List.set_cons_zero, List.set_cons_succ]
              refine wpAnyH_take (i := 10) (oi := _) (v := ?qa10) rfl (by kernel_rfl) (by kernel_rfl) (by kernel_rfl) (fun _ _ _ h => h) (Or.inl ⟨by rfl, ?hyqa10⟩) (by assumption) ?restqa10
              case hyqa10 => (intro w hSw; (try dsimp only at hSw); go_simp; try (with_reducible rfl))
              try simp only [List.getElem_toArray, List.getElem_cons_zero, List.getElem_cons_succ, Act.put, List.setIfInBounds_toArray, List.set_cons_zero, List.set_cons_succ]
              refine wpAnyH_take (i := 11) (oi := _) (v := ?qa11) rfl (by kernel_rfl) (by kernel_rfl) (by kernel_rfl) (fun _ _ _ h => h) (Or.inl ⟨by rfl, ?hyqa11⟩) (by assumption) ?restqa11
              case hyqa11 => (intro w hSw; (try dsimp only at hSw); go_simp; try (with_reducible rfl))
              try simp only [List.getElem_toArray, List.getElem_cons_zero, List.getElem_cons_succ, Act.put, List.setIfInBounds_toArray, List.set_cons_zero, List.set_cons_succ]
              refine wpAnyH_done (by kernel_rfl) ?_ _
              go_wp2_with fail
              go_meet
              exact ⟨rfl, rfl, Lib.hid ((Keeps.refl [] w5).drew'.trans (hk7.trans hk8))⟩
            case rest =>
              obtain ⟨rfl, rfl, hkx⟩ := hcut
              have HK6 := Lib.hid (HK5.out.trans hkx.out)
              have hz0 : (bs L0).size ≤ 3 := by rw [bs_size]; exact HL0.out.2
              have hz1 : (bs L1).size ≤ 3 := by rw [bs_size]; exact HL1.out.2
              have hzs : (bs s).size ≤ 300 := by omega
              have a1 : ¬ 9223372036854775807 < 29 + (bs L0).size := by omega
              have a2 : ¬ 9223372036854775807 < 29 + (bs L0).size + (bs s).size := by omega
              have a3 : ¬ 9223372036854775807 < 29 + (bs L0).size + (bs s).size + (bs L1).size := by omega
              have a4 : ¬ 9223372036854775807 < 29 + (bs L0).size + (bs s).size + (bs L1).size + 2 := by omega
              have a5 : ¬ 9223372036854775807 < 11 + (bs s).size := by omega
              have a6 : ¬ 9223372036854775807 < 11 + (bs s).size + 11 := by omega
              have a7 : ¬ 9223372036854775807 < 11 + (bs s).size + 15 := by omega
              have ap1 : (⟨#[71, 69, 84, 32, 47, 32, 72, 84, 84, 80, 47, 49, 46, 49, 13, 10, 88, 45, 89, 58, 32, 122, 13, 10, 72, 79, 83, 84, 58]⟩ : ByteArray) ++ bs L0 ++ bs s ++ bs L1 ++ ⟨#[13, 10]⟩ = bs (hostLn L0 s L1) := by apply ByteArray.ext; simp [bs, hostLn]
              have ap2 : (⟨#[71, 69, 84, 32, 104, 116, 116, 112, 58, 47, 47]⟩ : ByteArray) ++ bs s ++ ⟨#[32, 72, 84, 84, 80, 47, 49, 46, 49, 13, 10]⟩ = bs (uriB s) := by apply ByteArray.ext; simp [bs, uriB]
              have ap3 : (⟨#[71, 69, 84, 32, 104, 116, 116, 112, 58, 47, 47]⟩ : ByteArray) ++ bs s ++ ⟨#[47, 97, 63, 98, 32, 72, 84, 84, 80, 47, 49, 46, 48, 13, 10]⟩ = bs (pathB s) := by apply ByteArray.ext; simp [bs, pathB, uriH]
              have HQ1 := Lib.hid (looked_any wc (HW.out.keep0 HK6.out) (hostLn L0 s L1) [] (by have := HL0.out.2; have := HL1.out.2; simp [hostLn]; omega) 3)
              rw [show lookedB (hostLn L0 s L1) 3 [] = true by unfold lookedB; rw [HLS.out L0 L1 HL0.out.1 HL1.out.1]; simp] at HQ1
              clear hz0 hz1 hzs hsz h300
              go_wp2_with fail
              refine HQ1.out.mono ?_
              rintro e w7 ⟨rfl, k7⟩
              have HK7 := Lib.hid (HK6.out.trans k7)
              have HQ2 := Lib.hid (looked_any w7 (HW.out.keep0 (HK6.out.trans k7)) (uriB s) [] (by simp [uriB]; have := HSL.out; omega) 3)
              rw [show lookedB (uriB s) 3 [] = true by unfold lookedB; rw [HOS.out]; simp] at HQ2
              clear k7 HQ1
              go_wp2_with fail
              refine HQ2.out.mono ?_
              rintro e w8 ⟨rfl, k8⟩
              have HK8 := Lib.hid (HK7.out.trans k8)
              clear k8 HQ2
              have HK9 := HK8
              have HWK := Lib.hid (wakes_any w8 (HW.out.keep0 HK9.out))
              go_wp2_with fail
              refine HWK.out.mono ?_
              rintro e w10 ⟨rfl, k10⟩
              have HK10 := Lib.hid (HK9.out.trans k10)
              clear k10 HWK
              go_wp2_with fail
              go_ret
              exact ⟨rfl, HK10.out⟩
          | true =>
            simp only [if_true, if_false, Bool.false_eq_true] at HOS HLS ⊢
            have hE0 := bs_nil_empty
            have hEn := bs_ne (HNE.out rfl)
            have HBD := Lib.hid (show w5.drew.cell? ⟨ab, 0, none⟩ = some (.int .u8 b0) ∧ w5.drew.cell? ⟨ab, 1, none⟩ = some (.int .u8 b1) from ⟨HB5.out.1, HB5.out.2⟩)
            obtain ⟨L0, hL0⟩ : ∃ l, Lib.repeatL [32] (b0 % 4) = l := ⟨_, rfl⟩
            obtain ⟨L1, hL1⟩ : ∃ l, Lib.repeatL [9] (b1 % 4) = l := ⟨_, rfl⟩
            have HR0 := Lib.hid (fun (x : World) => rep_any x 32 (b0 % 4) (by omega))
            have HR1 := Lib.hid (fun (x : World) => rep_any x 9 (b1 % 4) (by omega))
            rw [hL0] at HR0
            rw [hL1] at HR1
            have HE0 := Lib.hid (wrap_mod4 b0)
            have HE1 := Lib.hid (wrap_mod4 b1)
            have HL0 := Lib.hid (show (∀ b ∈ L0, blankB b = true) ∧ L0.length ≤ 3 by
              have : b0 % 4 = 0 ∨ b0 % 4 = 1 ∨ b0 % 4 = 2 ∨ b0 % 4 = 3 := by omega
              rw [← hL0]
              rcases this with h | h | h | h <;> rw [h] <;> decide)
            have HL1 := Lib.hid (show (∀ b ∈ L1, b = 9) ∧ L1.length ≤ 3 by
              have : b1 % 4 = 0 ∨ b1 % 4 = 1 ∨ b1 % 4 = 2 ∨ b1 % 4 = 3 := by omega
              rw [← hL1]
              rcases this with h | h | h | h <;> rw [h] <;> decide)
            clear hL0 hL1
            go_upto_region 16 with fail
            go_cut [14, 15] (fun lv rv wx => lv = .string (bs L0) ∧ rv = .string (bs L1) ∧ Hid (Keeps [] w5 wx))
            case first =>
              refine wp_region_held_drew (S := fun W => W.cell? ⟨ab, 0, none⟩ = some (.int .u8 b0) ∧ W.cell? ⟨ab, 1, none⟩ = some (.int .u8 b1)) (by kernel_rfl) ?hSqb (fun hHeld => ?_)
              case hSqb => exact HBD.out
              refine wpAnyH_take (i := 0) (oi := _) (v := ?qb0) rfl (by kernel_rfl) (by kernel_rfl) (by kernel_rfl) (fun _ _ _ h => h) (Or.inl ⟨by rfl, ?hyqb0⟩) (by assumption) ?restqb0
              case hyqb0 => (intro w hSw; (try dsimp only at hSw); go_simp; try (with_reducible rfl))
              try simp only [List.getElem_toArray, List.getElem_cons_zero, List.getElem_cons_succ, Act.put, List.setIfInBounds_toArray, List.set_cons_zero, List.set_cons_succ]
              refine wpAnyH_take (i := 1) (oi := _) (v := ?qb1) rfl (by kernel_rfl) (by kernel_rfl) (by kernel_rfl) (fun _ _ _ h => h) (Or.inl ⟨by rfl, ?hyqb1⟩) (by assumption) ?restqb1
              case hyqb1 => (intro w hSw; (try dsimp only at hSw); go_simp; try (with_reducible rfl))
              try simp only [List.getElem_toArray, List.getElem_cons_zero, List.getElem_cons_succ, Act.put, List.setIfInBounds_toArray, List.set_cons_zero, List.set_cons_succ]
              refine wpAnyH_take (i := 2) (oi := _) (v := ?qb2) rfl (by kernel_rfl) (by kernel_rfl) (by kernel_rfl) (fun _ _ _ h => h) (Or.inl ⟨by rfl, ?hyqb2⟩) (by assumption) ?restqb2
              case hyqb2 => (intro w hSw; (try dsimp only at hSw); go_simp; try (with_reducible rfl))
              try simp only [List.getElem_toArray, List.getElem_cons_zero, List.getElem_cons_succ, Act.put, List.setIfInBounds_toArray, List.set_cons_zero, List.set_cons_succ]
              refine wpAnyH_take (i := 3) (oi := _) (v := ?qb3) rfl (by kernel_rfl) (by kernel_rfl) (by kernel_rfl) (fun _ _ _ h => h) (Or.inl ⟨by rfl, ?hyqb3⟩) (by assumption) ?restqb3
              case hyqb3 => (intro w hSw; (try dsimp only at hSw); go_simp; try (with_reducible rfl))
              try simp only [List.getElem_toArray, List.getElem_cons_zero, List.getElem_cons_succ, Act.put, List.setIfInBounds_toArray, List.set_cons_zero, List.set_cons_succ]
              refine wpAnyH_take (i := 5) (oi := _) (v := ?qb5) rfl (by kernel_rfl) (by kernel_rfl) (by kernel_rfl) (fun _ _ _ h => h) (Or.inl ⟨by rfl, ?hyqb5⟩) (by assumption) ?restqb5
              case hyqb5 => (intro w hSw; (try dsimp only at hSw); go_simp; try (with_reducible rfl))
              try simp only [List.getElem_toArray, List.getElem_cons_zero, List.getElem_cons_succ, Act.put, List.setIfInBounds_toArray, List.set_cons_zero, List.set_cons_succ]
              refine wpAnyH_take (i := 6) (oi := _) (v := ?qb6) rfl (by kernel_rfl) (by kernel_rfl) (by kernel_rfl) (fun _ _ _ h => h) (Or.inl ⟨by rfl, ?hyqb6⟩) (by assumption) ?restqb6
              case hyqb6 => (intro w hSw; (try dsimp only at hSw); go_simp; try (with_reducible rfl))
              try simp only [List.getElem_toArray, List.getElem_cons_zero, List.getElem_cons_succ, Act.put, List.setIfInBounds_toArray, List.set_cons_zero, List.set_cons_succ]
              refine wpAnyH_take (i := 7) (oi := _) (v := ?qb7) rfl (by kernel_rfl) (by kernel_rfl) (by kernel_rfl) (fun _ _ _ h => h) (Or.inl ⟨by rfl, ?hyqb7⟩) (by assumption) ?restqb7
              case hyqb7 => (intro w hSw; (try dsimp only at hSw); go_simp; try (with_reducible rfl))
              try simp only [List.getElem_toArray, List.getElem_cons_zero, List.getElem_cons_succ, Act.put, List.setIfInBounds_toArray, List.set_cons_zero, List.set_cons_succ]
              refine wpAnyH_take (i := 8) (oi := _) (v := ?qb8) rfl (by kernel_rfl) (by kernel_rfl) (by kernel_rfl) (fun _ _ _ h => h) (Or.inl ⟨by rfl, ?hyqb8⟩) (by assumption) ?restqb8
              case hyqb8 => (intro w hSw; (try dsimp only at hSw); go_simp; try (with_reducible rfl))
              try simp only [List.getElem_toArray, List.getElem_cons_zero, List.getElem_cons_succ, Act.put, List.setIfInBounds_toArray, List.set_cons_zero, List.set_cons_succ]
              refine wpAnyH_ready (rs := [4]) (by kernel_rfl) (by simp) ?_
              refine AllReadyH.cons (o := _) rfl (fun K hK => ?_) AllReadyH.nil
              try simp only [List.getElem_toArray, List.getElem_cons_zero, List.getElem_cons_succ, Act.put, List.setIfInBounds_toArray, List.set_cons_zero, List.set_cons_succ]
              go_simp
              rw [HE0.out]
              refine (HR0.out _).mono ?_
              rintro e w7 ⟨rfl, hk7⟩
              refine hK.out _ _ ⟨cell_keeps hk7 HBD.out.1 (by simp), cell_keeps hk7 HBD.out.2 (by simp)⟩ (fun hHeld2 => ?_)
              clear hK K
              try simp only [List.getElem_toArray, List.getElem_cons_zero, List.getElem_cons_succ, Act.put, List.setIfInBounds_toArray, List.set_cons_zero, List.set_cons_succ]
              refine wpAnyH_ready (rs := [9]) (by kernel_rfl) (by simp) ?_
              refine AllReadyH.cons (o := _) rfl (fun K hK => ?_) AllReadyH.nil
              try simp only [List.getElem_toArray, List.getElem_cons_zero, List.getElem_cons_succ, Act.put, List.setIfInBounds_toArray, List.set_cons_zero, List.set_cons_succ]
              go_simp
              rw [HE1.out]
              refine (HR1.out _).mono ?_
              rintro e w8 ⟨rfl, hk8⟩
              refine hK.out _ _ ⟨cell_keeps (hk7.trans hk8) HBD.out.1 (by simp), cell_keeps (hk7.trans hk8) HBD.out.2 (by simp)⟩ (fun hHeld3 => ?_)
              clear hK K
              try simp only [List.getElem_toArray, List.getElem_cons_zero, List.getElem_cons_succ, Act.put, List.setIfInBounds_toArray, List.set_cons_zero, List.set_cons_succ]
              refine wpAnyH_take (i := 10) (oi := _) (v := ?qb10) rfl (by kernel_rfl) (by kernel_rfl) (by kernel_rfl) (fun _ _ _ h => h) (Or.inl ⟨by rfl, ?hyqb10⟩) (by assumption) ?restqb10
              case hyqb10 => (intro w hSw; (try dsimp only at hSw); go_simp; try (with_reducible rfl))
              try simp only [List.getElem_toArray, List.getElem_cons_zero, List.getElem_cons_succ, Act.put, List.setIfInBounds_toArray, List.set_cons_zero, List.set_cons_succ]
              refine wpAnyH_take (i := 11) (oi := _) (v := ?qb11) rfl (by kernel_rfl) (by kernel_rfl) (by kernel_rfl) (fun _ _ _ h => h) (Or.inl ⟨by rfl, ?hyqb11⟩) (by assumption) ?restqb11
              case hyqb11 => (intro w hSw; (try dsimp only at hSw); go_simp; try (with_reducible rfl))
              try simp only [List.getElem_toArray, List.getElem_cons_zero, List.getElem_cons_succ, Act.put, List.setIfInBounds_toArray, List.set_cons_zero, List.set_cons_succ]
              refine wpAnyH_done (by kernel_rfl) ?_ _
              go_wp2_with fail
              go_meet
              exact ⟨rfl, rfl, Lib.hid ((Keeps.refl [] w5).drew'.trans (hk7.trans hk8))⟩
            case rest =>
              obtain ⟨rfl, rfl, hkx⟩ := hcut
              have HK6 := Lib.hid (HK5.out.trans hkx.out)
              have hz0 : (bs L0).size ≤ 3 := by rw [bs_size]; exact HL0.out.2
              have hz1 : (bs L1).size ≤ 3 := by rw [bs_size]; exact HL1.out.2
              have hzs : (bs s).size ≤ 300 := by omega
              have a1 : ¬ 9223372036854775807 < 29 + (bs L0).size := by omega
              have a2 : ¬ 9223372036854775807 < 29 + (bs L0).size + (bs s).size := by omega
              have a3 : ¬ 9223372036854775807 < 29 + (bs L0).size + (bs s).size + (bs L1).size := by omega
              have a4 : ¬ 9223372036854775807 < 29 + (bs L0).size + (bs s).size + (bs L1).size + 2 := by omega
              have a5 : ¬ 9223372036854775807 < 11 + (bs s).size := by omega
              have a6 : ¬ 9223372036854775807 < 11 + (bs s).size + 11 := by omega
              have a7 : ¬ 9223372036854775807 < 11 + (bs s).size + 15 := by omega
              have ap1 : (⟨#[71, 69, 84, 32, 47, 32, 72, 84, 84, 80, 47, 49, 46, 49, 13, 10, 88, 45, 89, 58, 32, 122, 13, 10, 72, 79, 83, 84, 58]⟩ : ByteArray) ++ bs L0 ++ bs s ++ bs L1 ++ ⟨#[13, 10]⟩ = bs (hostLn L0 s L1) := by apply ByteArray.ext; simp [bs, hostLn]
              have ap2 : (⟨#[71, 69, 84, 32, 104, 116, 116, 112, 58, 47, 47]⟩ : ByteArray) ++ bs s ++ ⟨#[32, 72, 84, 84, 80, 47, 49, 46, 49, 13, 10]⟩ = bs (uriB s) := by apply ByteArray.ext; simp [bs, uriB]
              have ap3 : (⟨#[71, 69, 84, 32, 104, 116, 116, 112, 58, 47, 47]⟩ : ByteArray) ++ bs s ++ ⟨#[47, 97, 63, 98, 32, 72, 84, 84, 80, 47, 49, 46, 48, 13, 10]⟩ = bs (pathB s) := by apply ByteArray.ext; simp [bs, pathB, uriH]
              have HQ1 := Lib.hid (looked_any wc (HW.out.keep0 HK6.out) (hostLn L0 s L1) fn (by have := HL0.out.2; have := HL1.out.2; simp [hostLn]; omega) 1)
              rw [show lookedB (hostLn L0 s L1) 1 fn = true by unfold lookedB; rw [HLS.out L0 L1 HL0.out.1 HL1.out.1]; simp] at HQ1
              clear hz0 hz1 hzs hsz h300
              go_wp2_with fail
              refine HQ1.out.mono ?_
              rintro e w7 ⟨rfl, k7⟩
              have HK7 := Lib.hid (HK6.out.trans k7)
              have HQ2 := Lib.hid (looked_any w7 (HW.out.keep0 (HK6.out.trans k7)) (uriB s) fn (by simp [uriB]; have := HSL.out; omega) 1)
              rw [show lookedB (uriB s) 1 fn = true by unfold lookedB; rw [HOS.out]; simp] at HQ2
              clear k7 HQ1
              go_wp2_with fail
              refine HQ2.out.mono ?_
              rintro e w8 ⟨rfl, k8⟩
              have HK8 := Lib.hid (HK7.out.trans k8)
              clear k8 HQ2
              have HQ3 := Lib.hid (looked_any w8 (HW.out.keep0 HK8.out) (pathB s) fn (by simp [pathB, uriH]; have := HSL.out; omega) 1)
              rw [show lookedB (pathB s) 1 fn = true by unfold lookedB; rw [HPS.out trivial]; simp] at HQ3
              go_wp2_with fail
              refine HQ3.out.mono ?_
              rintro e w9 ⟨rfl, k9⟩
              have HK9 := Lib.hid (HK8.out.trans k9)
              clear k9 HQ3
              have HWK := Lib.hid (wakes_any w9 (HW.out.keep0 HK9.out))
              go_wp2_with fail
              refine HWK.out.mono ?_
              rintro e w10 ⟨rfl, k10⟩
              have HK10 := Lib.hid (HK9.out.trans k10)
              clear k10 HWK
              go_wp2_with fail
              go_ret
              exact ⟨rfl, HK10.out⟩
end Go.Proofs.YtjppfdilfcokeaaDoor
