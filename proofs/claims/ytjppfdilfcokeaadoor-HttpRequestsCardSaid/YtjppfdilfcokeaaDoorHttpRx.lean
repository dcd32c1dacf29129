/-
  The walk of the document's own Request (culvertref22.Request): the bytes of http.Request. Condition: the fields lie in memory, at most 101; no name or value is longer than 2^47.
-/
import Derived.Test.YtjppfdilfcokeaaDoorHttpRr
import Derived.Test.YtjppfdilfcokeaaDoorFoldR
import Derived.Test.YtjppfdilfcokeaaDoorHttpQ
namespace Go.Proofs.YtjppfdilfcokeaaDoor
open Go.RowKit Go.Lib
set_option linter.unusedVariables false
set_option linter.unusedSimpArgs false

theorem equalFold_low : ∀ (a b : List UInt8), (∀ y ∈ b, 97 ≤ y.toNat ∧ y.toNat ≤ 122) → (equalFold a b = true ↔ a.map lowerB = b)
  | [], [], _ => by simp [equalFold]
  | [], y :: b, _ => by simp [equalFold]
  | x :: a, [], _ => by simp [equalFold]
  | x :: a, y :: b, h => by
    have ih := equalFold_low a b (fun z hz => h z (by simp [hz]))
    have hy := h y (by simp)
    have hxy : foldEq x y = true ↔ lowerB x = y := by
      unfold foldEq
      rw [decide_eq_true_eq]
      cases hc : capB x with
      | true =>
        have hl := lower_cap hc
        have hx1 : 65 ≤ x.toNat ∧ x.toNat ≤ 90 := by unfold capB at hc; simpa using hc
        constructor
        · intro h2
          apply UInt8.toNat_inj.1
          omega
        · intro h2
          rw [h2] at hl
          omega
      | false =>
        rw [lower_not hc]
        have hx1 : ¬ (65 ≤ x.toNat ∧ x.toNat ≤ 90) := by unfold capB at hc; simp at hc; omega
        constructor
        · intro h2
          apply UInt8.toNat_inj.1
          omega
        · intro h2
          rw [h2]; left; rfl
    simp [equalFold, hxy, ih]
theorem host_low (a : List UInt8) : equalFold a hostL = true ↔ a.map lowerB = hostL := equalFold_low a hostL (fun y hy => by
  have h2 : y ∈ ([104, 111, 115, 116] : List UInt8) := hy
  simp only [List.mem_cons, List.not_mem_nil, or_false] at h2
  rcases h2 with h | h | h | h <;> rw [h] <;> decide)
set_option maxRecDepth 1000000 in
set_option maxHeartbeats 16000000 in
theorem rrequest_any (w : World) (host : List UInt8) (A : Option Addr) (n c : Nat) (fs : List FL) (hfs : FieldsV w A n c fs) (hn : n ≤ 101) (hsz : ∀ f ∈ fs, f.1.length ≤ 140737488355328 ∧ f.2.length ≤ 140737488355328) :
    Calls Tryd.prog 12 #[.string (bs host), .slice A n c] w fun e w' => ∃ v, e = .returned (.tuple #[v, .int .i64 (reqR host fs).2]) ∧ BytesV w' v (reqR host fs).1 ∧ Keeps [] w w' := by
  obtain ⟨res, hres⟩ : ∃ res, reqR host fs = res := ⟨_, rfl⟩
  rw [hres]
  obtain ⟨LG, hLG⟩ : ∃ LG, reqLong fs = LG := ⟨_, rfl⟩
  have HRES := Lib.hid (show (if reqOk host fs = false then ([], 1) else if LG = true then ([], 3) else (reqB host fs, 0)) = res by rw [← hres, ← hLG]; rfl)
  have HERR := Lib.hid (show ∀ f ∈ fs, fieldOk f = false → res = ([], 1) from fun f hf hff => by
    have : reqOk host fs = false := by
      unfold reqOk
      rw [show fs.all fieldOk = false from List.all_eq_false.2 ⟨f, hf, by rw [hff]; simp⟩, Bool.and_false]
    rw [← HRES.out, if_pos this])
  have HLG := Lib.hid hLG
  have HFS := Lib.hid hfs
  have HSZ := Lib.hid hsz
  have HF := Lib.hid (rfold_any w (bs host))
  rw [foldIs_bs, foldB_bs] at HF
  have HNL := Lib.hid (show n = fs.length from hfs.1)
  clear hres hfs hLG hsz
  obtain ⟨isb, hisb⟩ : ∃ isb, (foldA host).isSome = isb := ⟨_, rfl⟩
  rw [hisb] at HF
  have HISB := Lib.hid hisb
  clear hisb
  go_enter Tryd.func12, Tryd.ntmps12
  go_wp2_with fail
  refine HF.out.mono ?_
  rintro e w1 ⟨rfl, k1⟩
  have HK1 := Lib.hid k1
  clear k1 HF
  go_upto_region 2 with fail
  go_cut [24] (fun ov wx => ov = .bool (!(host.isEmpty || isb)) ∧ wx = w1)
  case first =>
    cases host with
    | nil =>
      have hE : (bs []).toList.isEmpty = true := by rw [Lib.toList_data]; rfl
      go_wp2_with fail
      go_meet
      exact ⟨rfl, rfl⟩
    | cons h0 host =>
      have hE := bs_empty h0 host
      go_wp2_with fail
      go_meet
      exact ⟨by simp, rfl⟩
  case rest =>
    obtain ⟨rfl, hwx⟩ := hcut
    obtain rfl := hwx.symm
    clear hwx
    cases hok0 : (host.isEmpty || isb) with
    | false =>
      have hn : res = ([], 1) := by
        rw [← HRES.out, if_pos]
        unfold reqOk
        rw [HISB.out, hok0]; rfl
      subst hn
      go_wp2_with fail
      exact bodyPost_ret (v := .tuple #[.slice none 0 0, .int .i64 1]) (by simp [results, Tryd.results12, go_sem]) rfl ⟨_, rfl, BytesV.nil _, HK1.out⟩
    | true =>
      have HOK0 := Lib.hid hok0
      obtain ⟨lg0, hlg0⟩ : ∃ lg0, decide ((100 : Int) < (n : Int)) = lg0 := ⟨_, rfl⟩
      have HLG2 := Lib.hid (show (lg0 || fs.any fieldLong) = LG by
        rw [← HLG.out, ← hlg0]
        unfold reqLong
        rw [← HNL.out]
        congr 1
        exact decide_eq_decide.2 (by omega))
      clear hok0
      go_wp2_with fail
      go_loopg [8, 9, 10] fs.length (fun g lv sv iv wx => ∃ (lg : Bool) (pre post : List FL), fs = pre ++ post ∧ g = post.length ∧ lv = .bool lg ∧ sv = .string (bs (reqHead ++ (pre.map lineB).flatten)) ∧ iv = .int .i64 pre.length ∧ pre.all fieldOk = true ∧ (lg || post.any fieldLong) = LG ∧ (pre.map lineB).flatten.length ≤ pre.length * 281474976710660 ∧ Keeps [] w wx)
      case atStart => exact ⟨lg0, [], fs, rfl, rfl, rfl, rfl, rfl, rfl, HLG2.out, by simp, HK1.out⟩
      case round =>
        obtain ⟨lg, pre, post, hsp, hg, rfl, rfl, rfl, hok, hlg, hlb, hk⟩ := hrel
        subst hg
        have hll : fs.length = pre.length + post.length := by rw [hsp]; simp
        cases post with
        | nil =>
          have hlt : ¬ (pre.length : Int) < (n : Int) := by have := HNL.out; simp at hll; omega
          have h2 : lg = LG := by rw [← hlg]; simp
          have hpre : pre = fs := by rw [hsp]; simp
          subst hpre
          subst h2
          have HK := Lib.hid hk
          have hokk : reqOk host pre = true := by unfold reqOk; rw [HISB.out, HOK0.out, hok]; rfl
          cases lg with
          | true =>
            have hn : res = ([], 3) := by rw [← HRES.out, hokk]; rfl
            subst hn
            clear hok hlg hk hll hsp hokk hlb
            go_wp2_with fail
            exact bodyPost_ret (v := .tuple #[.slice none 0 0, .int .i64 3]) (by simp [results, Tryd.results12, go_sem]) rfl ⟨_, rfl, BytesV.nil _, HK.out⟩
          | false =>
            have hn : res = (reqB host pre, 0) := by rw [← HRES.out, hokk]; rfl
            subst hn
            have hno : ∀ f ∈ pre, f.1.length ≤ 1000 ∧ f.2.length ≤ 1000 := by
              intro f hf
              have h1 : reqLong pre = false := HLG.out
              unfold reqLong at h1
              rw [Bool.or_eq_false_iff] at h1
              have h2 := List.any_eq_false.1 h1.2 f hf
              simp [fieldLong] at h2
              omega
            have hlb2 : ∀ l : List FL, (∀ f ∈ l, f.1.length ≤ 1000 ∧ f.2.length ≤ 1000) → (l.map lineB).flatten.length ≤ l.length * 2004 := by
              intro l
              induction l with
              | nil => intro _; simp
              | cons f l ih =>
                intro h
                have h2 := h f (by simp)
                have h3 := ih (fun x hx => h x (by simp [hx]))
                simp only [List.map_cons, List.flatten_cons, List.length_append, List.length_cons, lineB, List.length_nil]
                omega
            have hlb3 := hlb2 pre hno
            have hn101 : pre.length ≤ 101 := by have := HNL.out; omega
            have hh253 : host.length ≤ 253 := by
              have h1 : (host.isEmpty || isb) = true := HOK0.out
              rw [Bool.or_eq_true] at h1
              rcases h1 with h | h
              · simp at h; rw [h]; simp
              · rw [← HISB.out] at h
                obtain ⟨l, hl⟩ := Option.isSome_iff_exists.1 h
                exact (foldA_some hl).2.1
            clear hok hlg hk hll hsp hokk hlb hno hlb2
            have hrl : (reqB host pre).length ≤ 300000 := by
              have h1 : (hostLine host).length ≤ 300 := by unfold hostLine; split <;> simp; omega
              unfold reqB
              rw [List.length_append, List.length_append, List.length_append, show reqHead.length = 16 from rfl]
              simp only [List.length_cons, List.length_nil]
              omega
            have hcv := Go.Lib.run_convert_string_bytes (P := Tryd.prog) wr 9 22 5 (bs (reqB host pre)) (u := .string) Tryd.underlying9 Tryd.underlying22 Tryd.underlying5
            have HCB := Lib.hid (conv_bytes wr (reqB host pre) (by omega))
            have hsl : (bs (reqHead ++ (pre.map lineB).flatten)).size ≤ 300000 := by rw [bs_size, List.length_append, show reqHead.length = 16 from rfl]; omega
            clear hlb3 hrl
            cases host with
            | nil =>
              have hE : (bs []).toList.isEmpty = true := by rw [Lib.toList_data]; rfl
              have e1 : ¬ 9223372036854775807 < (bs (reqHead ++ (pre.map lineB).flatten)).size + 2 := by omega
              have happ : bs (reqHead ++ (pre.map lineB).flatten) ++ ⟨#[13, 10]⟩ = bs (reqB [] pre) := by apply ByteArray.ext; simp [bs, reqB, hostLine]
              clear hsl
              go_wp2_with fail
              exact bodyPost_ret (v := .tuple #[.slice (some ⟨wr.heap.size, 0, none⟩) (bs (reqB [] pre)).size (grownCap wr (bs (reqB [] pre)).size 0 5), .int .i64 0]) (by simp [results, Tryd.results12, go_sem]) rfl ⟨_, rfl, HCB.out.1, HK.out.trans HCB.out.2⟩
            | cons h0 host =>
              have hE := bs_empty h0 host
              have hb := hsl
              have e1 : ¬ 9223372036854775807 < (bs (reqHead ++ (pre.map lineB).flatten)).size + 6 := by omega
              have e2 : ¬ 9223372036854775807 < (bs (reqHead ++ (pre.map lineB).flatten)).size + 6 + (bs (h0 :: host)).size := by rw [bs_size (h0 :: host)]; omega
              have e3 : ¬ 9223372036854775807 < (bs (reqHead ++ (pre.map lineB).flatten)).size + 6 + (bs (h0 :: host)).size + 2 := by rw [bs_size (h0 :: host)]; omega
              have e4 : ¬ 9223372036854775807 < (bs (reqHead ++ (pre.map lineB).flatten)).size + 6 + (bs (h0 :: host)).size + 2 + 2 := by rw [bs_size (h0 :: host)]; omega
              have happ : bs (reqHead ++ (pre.map lineB).flatten) ++ ⟨#[72, 111, 115, 116, 58, 32]⟩ ++ bs (h0 :: host) ++ ⟨#[13, 10]⟩ ++ ⟨#[13, 10]⟩ = bs (reqB (h0 :: host) pre) := by apply ByteArray.ext; simp [bs, reqB, hostLine]
              clear hsl hb
              go_wp2_with fail
              exact bodyPost_ret (v := .tuple #[.slice (some ⟨wr.heap.size, 0, none⟩) (bs (reqB (h0 :: host) pre)).size (grownCap wr (bs (reqB (h0 :: host) pre)).size 0 5), .int .i64 0]) (by simp [results, Tryd.results12, go_sem]) rfl ⟨_, rfl, HCB.out.1, HK.out.trans HCB.out.2⟩
        | cons f post =>
          have hlt : (pre.length : Int) < (n : Int) := by have := HNL.out; simp at hll; omega
          have hlt0 : pre.length < n := by omega
          have HSP := Lib.hid hsp
          have HOKR := Lib.hid hok
          have HLGR := Lib.hid hlg
          have HLB := Lib.hid hlb
          have HER := Lib.hid (HERR.out f (by rw [hsp]; simp))
          obtain ⟨g, o, hA, hc⟩ := HFS.out.2.2 (by omega)
          subst hA
          obtain ⟨hc1, hc2⟩ := hc pre.length f (by rw [hsp]; simp)
          have f1 := cell_keeps hk hc1 (by simp)
          have f2 := cell_keeps hk hc2 (by simp)
          obtain ⟨hz1, hz2⟩ := HSZ.out f (by rw [hsp]; simp)
          have HZ := Lib.hid (And.intro hz1 hz2)
          obtain ⟨fa, fb⟩ := f
          dsimp only at f1 f2 hz1 hz2 HER HZ
          obtain ⟨ib, hib⟩ : ∃ ib, wr.heap.size = ib := ⟨_, rfl⟩
          obtain ⟨w2, hw2⟩ : ∃ w2, wr.alloc (.cells #[.string (bs fa), .string (bs fb)] 33) = w2 := ⟨_, rfl⟩
          have k2 : Keeps [] wr w2 := by rw [← hw2]; exact Keeps.alloc [] wr _
          have hb2 : w2.heap[ib]? = some (.cells #[.string (bs fa), .string (bs fb)] 33 (0, 0)) := by rw [← hw2, ← hib]; exact (MapKept.heap_alloc wr _).1
          have d1 : w2.cell? ⟨ib, 0, none⟩ = some (.string (bs fa)) := cell_of_block hb2 0
          have d2 : w2.cell? ⟨ib, 1, none⟩ = some (.string (bs fb)) := cell_of_block hb2 1
          have HK2 := Lib.hid (hk.trans k2)
          clear hc hc1 hc2 hok hlg hsp hll hk hlb k2 hb2
          go_upto_region 10 with fail
          clear hw2 f1 f2
          cases fa with
          | nil =>
            have hE : (bs []).toList.isEmpty = true := by rw [Lib.toList_data]; rfl
            have hn : res = ([], 1) := HER.out rfl
            subst hn
            go_wp2_with fail
            exact bodyPost_ret (v := .tuple #[.slice none 0 0, .int .i64 1]) (by simp [results, Tryd.results12, go_sem]) rfl ⟨_, rfl, BytesV.nil _, HK2.out⟩
          | cons a fa =>
            have hE := bs_empty a fa
            have HFO := Lib.hid (rfolded_any w2 (a :: fa) hz1)
            obtain ⟨lo, hlo⟩ : ∃ lo, (a :: fa).map lowerB = lo := ⟨_, rfl⟩
            rw [hlo] at HFO
            have HLO := Lib.hid hlo
            clear hlo
            have hbq : ((bs lo).toList == [104, 111, 115, 116]) = equalFold (a :: fa) hostL := by
              rw [Lib.toList_data]
              show (lo == hostL) = _
              rw [Bool.eq_iff_iff, beq_iff_eq, host_low, HLO.out]
            cases heq : equalFold (a :: fa) hostL with
            | true =>
              rw [heq] at hbq
              have hn : res = ([], 1) := HER.out (by simp [fieldOk, heq])
              subst hn
              clear heq
              go_wp2_with (first | (go_at_call 32; refine HFO.out.mono ?_; rintro e w3 ⟨rfl, k3⟩; have HK3 := Lib.hid (HK2.out.trans k3); clear k3))
              exact bodyPost_ret (v := .tuple #[.slice none 0 0, .int .i64 1]) (by simp [results, Tryd.results12, go_sem]) rfl ⟨_, rfl, BytesV.nil _, HK3.out⟩
            | false =>
              rw [heq] at hbq
              have HEQ := Lib.hid heq
              have s1 : (bs (a :: fa)).size = (a :: fa).length := rfl
              have s2 : (bs fb).size = fb.length := rfl
              obtain ⟨na, hna⟩ : ∃ na, a :: fa = na := ⟨_, rfl⟩
              have HNE := Lib.hid (show na.isEmpty = false by rw [← hna]; rfl)
              rw [hna] at d1 hE HFO HLO hz1 HER HZ s1 HEQ HLGR HSP
              clear hna heq HLO
              go_wp2_with (first | (go_at_call 32; refine HFO.out.mono ?_; rintro e w3 ⟨rfl, k3⟩; have HK3 := Lib.hid (HK2.out.trans k3); have d1 := cell_keeps k3 d1 (by simp); have d2 := cell_keeps k3 d2 (by simp); clear k3))
              go_loopg [12] na.length (fun gg v wx => wx = w3 ∧ ∃ p q : List UInt8, na = p ++ q ∧ gg = q.length ∧ v = .int .i64 p.length ∧ p.all wordB = true)
              case atStart => exact ⟨rfl, [], na, rfl, rfl, rfl, rfl⟩
              case round =>
                obtain ⟨rfl, p, q, hpq, hg, rfl, hpw⟩ := hrel
                subst hg
                have hpl : na.length = p.length + q.length := by rw [hpq]; simp
                cases q with
                | nil =>
                  have hlt1 : ¬ (p.length : Int) < (na.length : Int) := by simp at hpl; omega
                  have hp : p = na := by rw [hpq]; simp
                  subst hp
                  have HW := Lib.hid hpw
                  clear hpw hpq hpl
                  go_wp2_with fail
                  go_loopg [13] fb.length (fun gg v wx => wx = wr ∧ ∃ p q : List UInt8, fb = p ++ q ∧ gg = q.length ∧ v = .int .i64 p.length ∧ p.all shownB = true)
                  case atStart => exact ⟨rfl, [], fb, rfl, rfl, rfl, rfl⟩
                  case round =>
                    obtain ⟨hwr, r, q, hpq, hg, rfl, hpw⟩ := hrel
                    obtain rfl := hwr.symm
                    subst hg
                    have hpl : fb.length = r.length + q.length := by rw [hpq]; simp
                    cases q with
                    | nil =>
                      have hlt2 : ¬ (r.length : Int) < (fb.length : Int) := by simp at hpl; omega
                      have hp : r = fb := by rw [hpq]; simp
                      subst hp
                      have hfo : fieldOk (p, r) = true := by simp [fieldOk, HNE.out, HW.out, hpw, HEQ.out]
                      have HFO := Lib.hid hfo
                      clear hpw hpq hpl hfo
                      have hb : (bs (reqHead ++ (pre.map lineB).flatten)).size ≤ 30000000000000000 := by rw [bs_size, List.length_append, show reqHead.length = 16 from rfl]; have := HLB.out; omega
                      have e1 : ¬ 9223372036854775807 < (bs (reqHead ++ (pre.map lineB).flatten)).size + (bs p).size := by rw [s1]; omega
                      have e2 : ¬ 9223372036854775807 < (bs (reqHead ++ (pre.map lineB).flatten)).size + (bs p).size + 2 := by rw [s1]; omega
                      have e3 : ¬ 9223372036854775807 < (bs (reqHead ++ (pre.map lineB).flatten)).size + (bs p).size + 2 + (bs r).size := by rw [s1, s2]; omega
                      have e4 : ¬ 9223372036854775807 < (bs (reqHead ++ (pre.map lineB).flatten)).size + (bs p).size + 2 + (bs r).size + 2 := by rw [s1, s2]; omega
                      clear hb
                      by_cases q1 : (1000 : Int) < (p.length : Int)
                      · have HL8 := Lib.hid (show (true || post.any fieldLong) = LG by
                          rw [← HLGR.out, List.any_cons]
                          have : fieldLong (p, r) = true := by unfold fieldLong; rw [show decide (1000 < (p, r).1.length) = true from decide_eq_true (by simp only; omega)]; rfl
                          rw [this]; simp)
                        go_wp2_with fail
                        go_roundg post.length
                        case measure => simp
                        case rel => exact ⟨true, pre ++ [(p, r)], post, by rw [HSP.out]; simp, rfl, rfl, congrArg Value.string (by apply ByteArray.ext; simp [bs, lineB]), by simp, by rw [List.all_append, HOKR.out]; simp [HFO.out], HL8.out, by have h8 := HLB.out; have h9 := HZ.out; simp [lineB]; simp at h8; omega, HK3.out⟩
                      · by_cases q2 : (1000 : Int) < (r.length : Int)
                        · have HL8 := Lib.hid (show (true || post.any fieldLong) = LG by
                            rw [← HLGR.out, List.any_cons]
                            have : fieldLong (p, r) = true := by unfold fieldLong; rw [show decide (1000 < (p, r).2.length) = true from decide_eq_true (by simp only; omega), Bool.or_true]
                            rw [this]; simp)
                          go_wp2_with fail
                          go_roundg post.length
                          case measure => simp
                          case rel => exact ⟨true, pre ++ [(p, r)], post, by rw [HSP.out]; simp, rfl, rfl, congrArg Value.string (by apply ByteArray.ext; simp [bs, lineB]), by simp, by rw [List.all_append, HOKR.out]; simp [HFO.out], HL8.out, by have h8 := HLB.out; have h9 := HZ.out; simp [lineB]; simp at h8; omega, HK3.out⟩
                        · have HL8 := Lib.hid (show (lg || post.any fieldLong) = LG by
                            rw [← HLGR.out, List.any_cons]
                            have : fieldLong (p, r) = false := by unfold fieldLong; rw [show decide (1000 < (p, r).1.length) = false from decide_eq_false (by simp only; omega), show decide (1000 < (p, r).2.length) = false from decide_eq_false (by simp only; omega)]; rfl
                            rw [this, Bool.false_or])
                          go_wp2_with fail
                          go_roundg post.length
                          case measure => simp
                          case rel => exact ⟨lg, pre ++ [(p, r)], post, by rw [HSP.out]; simp, rfl, rfl, congrArg Value.string (by apply ByteArray.ext; simp [bs, lineB]), by simp, by rw [List.all_append, HOKR.out]; simp [HFO.out], HL8.out, by have h8 := HLB.out; have h9 := HZ.out; simp [lineB]; simp at h8; omega, HK3.out⟩
                    | cons x q =>
                      have hlt2 : (r.length : Int) < (fb.length : Int) := by simp at hpl; omega
                      have hlt3 : r.length < (bs fb).size := by rw [bs_size]; omega
                      have hget : ∀ h, (bs fb)[r.length]'h = x := by rw [hpq]; exact fun h => bs_mid r q x h
                      have hg2 := hget hlt3
                      have HPQ := Lib.hid hpq
                      have HPW := Lib.hid hpw
                      have CW := Lib.hid (rshown_any wr x)
                      clear hpl hpq hget hpw
                      cases hx : shownB x with
                      | true =>
                        rw [hx] at CW
                        have HX := Lib.hid hx
                        clear hx
                        go_wp2_with (first | (go_at_call 34; refine CW.out.mono ?_; rintro e w4 ⟨rfl, hw4⟩; obtain rfl := hw4.symm; clear hw4))
                        go_roundg q.length
                        case measure => simp
                        case rel => exact ⟨rfl, r ++ [x], q, by rw [HPQ.out]; simp, rfl, by simp, by rw [List.all_append, HPW.out]; simp [HX.out]⟩
                      | false =>
                        rw [hx] at CW
                        have hn : res = ([], 1) := HER.out (by
                          have : fb.all shownB = false := List.all_eq_false.2 ⟨x, by rw [HPQ.out]; simp, by rw [hx]; simp⟩
                          simp [fieldOk, this])
                        subst hn
                        clear hx
                        go_wp2_with (first | (go_at_call 34; refine CW.out.mono ?_; rintro e w4 ⟨rfl, hw4⟩; obtain rfl := hw4.symm; clear hw4))
                        exact bodyPost_ret (v := .tuple #[.slice none 0 0, .int .i64 1]) (by simp [results, Tryd.results12, go_sem]) rfl ⟨_, rfl, BytesV.nil _, HK3.out⟩
                | cons x q =>
                  have hlt1 : (p.length : Int) < (na.length : Int) := by simp at hpl; omega
                  have hlt2 : p.length < (bs na).size := by rw [bs_size]; omega
                  have hget : ∀ h, (bs na)[p.length]'h = x := by rw [hpq]; exact fun h => bs_mid p q x h
                  have hg2 := hget hlt2
                  have HPQ := Lib.hid hpq
                  have HPW := Lib.hid hpw
                  have CW := Lib.hid (rworded_any wr x)
                  clear hpl hpq hget hpw
                  cases hx : wordB x with
                  | true =>
                    rw [hx] at CW
                    have HX := Lib.hid hx
                    clear hx
                    go_wp2_with (first | (go_at_call 33; refine CW.out.mono ?_; rintro e w4 ⟨rfl, hw4⟩; obtain rfl := hw4.symm; clear hw4))
                    go_roundg q.length
                    case measure => simp
                    case rel => exact ⟨rfl, p ++ [x], q, by rw [HPQ.out]; simp, rfl, by simp, by rw [List.all_append, HPW.out]; simp [HX.out]⟩
                  | false =>
                    rw [hx] at CW
                    have hn : res = ([], 1) := HER.out (by
                      have : na.all wordB = false := List.all_eq_false.2 ⟨x, by rw [HPQ.out]; simp, by rw [hx]; simp⟩
                      simp [fieldOk, this])
                    subst hn
                    clear hx
                    go_wp2_with (first | (go_at_call 33; refine CW.out.mono ?_; rintro e w4 ⟨rfl, hw4⟩; obtain rfl := hw4.symm; clear hw4))
                    exact bodyPost_ret (v := .tuple #[.slice none 0 0, .int .i64 1]) (by simp [results, Tryd.results12, go_sem]) rfl ⟨_, rfl, BytesV.nil _, HK3.out⟩
end Go.Proofs.YtjppfdilfcokeaaDoor
