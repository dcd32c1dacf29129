/-
  The walk of http.Request: the bytes of a request. Condition: the library's variables lie as listed; the fields lie in memory; no string is longer than 2^47.
-/
import Derived.Test.YtpoheemjdieogaaGreatDoorHttpK
import Derived.Test.YtpoheemjdieogaaGreatDoorFoldQ
namespace Go.Proofs.YtpoheemjdieogaaGreatDoor
open Go.RowKit Go.Lib
set_option linter.unusedVariables false
set_option linter.unusedSimpArgs false

abbrev FL := List UInt8 × List UInt8
/-- the slice reads as these fields -/
def FieldsV (w : World) (A : Option Addr) (n c : Nat) (fs : List FL) : Prop :=
  n = fs.length ∧ n ≤ c ∧ (0 < n → ∃ g o, A = some ⟨g, o, none⟩ ∧ ∀ i f, fs[i]? = some f → w.cell? ⟨g, o + i * 2, none⟩ = some (.string (bs f.1)) ∧ w.cell? ⟨g, o + i * 2 + 1, none⟩ = some (.string (bs f.2)))
theorem FieldsV.keep0 {w w' : World} {A : Option Addr} {n c : Nat} {fs : List FL} (h : FieldsV w A n c fs) (k : Keeps [] w w') : FieldsV w' A n c fs := by
  refine ⟨h.1, h.2.1, fun hp => ?_⟩
  obtain ⟨g, o, e, hc⟩ := h.2.2 hp
  exact ⟨g, o, e, fun i f hf => ⟨cell_keeps k (hc i f hf).1 (by simp), cell_keeps k (hc i f hf).2 (by simp)⟩⟩
def fieldOk (f : FL) : Bool := !f.1.isEmpty && f.1.all wordB && f.2.all shownB && !equalFold f.1 hostL
def fieldLong (f : FL) : Bool := decide (1000 < f.1.length) || decide (1000 < f.2.length)
def lineB (f : FL) : List UInt8 := f.1 ++ [58, 32] ++ f.2 ++ [13, 10]
def reqHead : List UInt8 := [71, 69, 84, 32, 47, 32, 72, 84, 84, 80, 47, 49, 46, 49, 13, 10]
def hostLine (host : List UInt8) : List UInt8 := if host = [] then [] else [72, 111, 115, 116, 58, 32] ++ host ++ [13, 10]
def reqB (host : List UInt8) (fs : List FL) : List UInt8 := reqHead ++ (fs.map lineB).flatten ++ hostLine host ++ [13, 10]
def reqOk (host : List UInt8) (fs : List FL) : Bool := (host.isEmpty || (foldA host).isSome) && fs.all fieldOk
def reqLong (fs : List FL) : Bool := decide (100 < fs.length) || fs.any fieldLong
def reqR (host : List UInt8) (fs : List FL) : List UInt8 × Int := if reqOk host fs = false then ([], 1) else if reqLong fs = true then ([], 3) else (reqB host fs, 0)
set_option maxRecDepth 100000 in
set_option maxHeartbeats 2000000 in
theorem bytewise_any (w : World) (s : List UInt8) (fv : Value) (p : UInt8 → Bool) (hs : s.length ≤ 9223372036854775807) (hf : IsF [] w fv p) : Calls Tryz.prog 48 #[.string (bs s), fv] w fun e w' => e = .returned (.bool (s.all p)) ∧ w' = w := by
  obtain ⟨F, A1, C1, rfl, hF, hcall⟩ := hf
  have HC := Lib.hid hcall
  obtain ⟨res, hres⟩ : ∃ res, s.all p = res := ⟨_, rfl⟩
  rw [hres]
  have HRES := Lib.hid hres
  have hsz : (bs s).size = s.length := rfl
  clear hcall hres
  go_enter Tryz.func48, Tryz.ntmps48
  go_wp2_with fail
  go_loopg [8] s.length (fun g v wx => wx = w ∧ ∃ pre post : List UInt8, s = pre ++ post ∧ g = post.length ∧ v = .int .i64 pre.length ∧ post.all p = res)
  case atStart => exact ⟨rfl, [], s, rfl, rfl, rfl, HRES.out⟩
  case round =>
    obtain ⟨rfl, pre, post, hsp, hg, rfl, hte⟩ := hrel
    subst hg
    have hll : s.length = pre.length + post.length := by rw [hsp]; simp
    cases post with
    | nil =>
      have hlt : ¬ (pre.length : Int) < (s.length : Int) := by simp at hll; omega
      have hn : res = true := by rw [← hte]; rfl
      subst hn
      clear hte hll hsp
      go_wp2_with fail
      go_ret
      exact ⟨rfl, rfl⟩
    | cons x post =>
      have hlt : (pre.length : Int) < (s.length : Int) := by simp at hll; omega
      have hget : ∀ h, (bs s)[pre.length]'h = x := by rw [hsp]; exact fun h => bs_mid pre post x h
      have hget' : ∀ h, (bs s)[((pre.length : Nat) : Int).toNat]'h = x := by simpa using hget
      have hlt3 : pre.length < (bs s).size := by rw [bs_size]; omega
      have hg2 := hget hlt3
      have HSP := Lib.hid hsp
      have HTE := Lib.hid hte
      have HCC := Lib.hid (HC.out wr (Keeps.refl _ _) x)
      clear hll hsp hget hget' hte
      by_cases hp : p x = true
      · rw [hp] at HCC
        have HN := Lib.hid (show post.all p = res by rw [← HTE.out]; simp [hp])
        clear hp
        go_wp2_with fail
        refine HCC.out.mono ?_
        rintro e w2 ⟨rfl, hw⟩
        obtain rfl := hw.symm
        clear hw
        go_wp2_with fail
        go_roundg post.length
        case measure => simp
        case rel => exact ⟨rfl, pre ++ [x], post, by rw [HSP.out]; simp, rfl, by simp, HN.out⟩
      · have hp' : p x = false := by simpa using hp
        rw [hp'] at HCC
        have hn : res = false := by rw [← HTE.out]; simp [hp']
        subst hn
        clear hp hp'
        go_wp2_with fail
        refine HCC.out.mono ?_
        rintro e w2 ⟨rfl, hw⟩
        obtain rfl := hw.symm
        clear hw
        go_wp2_with fail
        go_ret
        exact ⟨rfl, rfl⟩
theorem foldIs_bs (host : List UInt8) : foldIs (bs host) = (foldA host).isSome := by
  unfold foldIs
  rw [show foldL (bs host).data.toList = foldA host from foldL_eq host]
/-- strings.EqualFold of a name and "host" -/
def EqHost (a : List UInt8) : Prop := ∀ w : World, a.all wordB = true → Calls Tryz.prog 51 #[.string (bs a), .string ⟨#[104, 111, 115, 116]⟩] w fun e w' => e = .returned (.bool (equalFold a hostL)) ∧ w' = w
theorem eqHost_short {a : List UInt8} (h : a.length < 4294967281) : EqHost a := fun w hw =>
  Any.strings_EqualFold Tryz.eqfL (bs a) ⟨#[104, 111, 115, 116]⟩ w h (fun j b hb => word_lt (List.all_eq_true.1 hw b (List.mem_of_getElem? hb))) (fun j b hb => by
    have hm := List.mem_of_getElem? hb
    have h2 : b ∈ ([104, 111, 115, 116] : List UInt8) := hm
    simp only [List.mem_cons, List.not_mem_nil, or_false] at h2
    rcases h2 with h | h | h | h <;> rw [h] <;> decide)
set_option maxRecDepth 100000 in
set_option maxHeartbeats 8000000 in
theorem request_any (w : World) (hw : LW w) (host : List UInt8) (A : Option Addr) (n c : Nat) (fs : List FL) (hfs : FieldsV w A n c fs) (hn : n ≤ 1000000) (hsz : ∀ f ∈ fs, f.1.length ≤ 9223372036854775807 ∧ f.2.length ≤ 9223372036854775807) (heq : ∀ f ∈ fs, EqHost f.1) :
    Calls Tryz.prog 19 #[.string (bs host), .slice A n c] w fun e w' => ∃ v, e = .returned (.tuple #[v, .int .i64 (reqR host fs).2]) ∧ BytesV w' v (reqR host fs).1 ∧ Keeps [] w w' := by
  obtain ⟨res, hres⟩ : ∃ res, reqR host fs = res := ⟨_, rfl⟩
  rw [hres]
  obtain ⟨OK, hOK⟩ : ∃ OK, reqOk host fs = OK := ⟨_, rfl⟩
  obtain ⟨LG, hLG⟩ : ∃ LG, reqLong fs = LG := ⟨_, rfl⟩
  have HRES := Lib.hid (show (if OK = false then ([], 1) else if LG = true then ([], 3) else (reqB host fs, 0)) = res by rw [← hres, ← hOK, ← hLG]; rfl)
  have HOK := Lib.hid hOK
  have HLG := Lib.hid hLG
  have HW := Lib.hid hw
  have HFS := Lib.hid hfs
  have HSZ := Lib.hid hsz
  have HEQ := Lib.hid heq
  have HF := Lib.hid (fold_any w hw (bs host))
  rw [foldIs_bs, foldB_bs] at HF
  have HNL := Lib.hid (show n = fs.length from hfs.1)
  clear hres hw hfs hOK hLG hsz heq
  obtain ⟨isb, hisb⟩ : ∃ isb, (foldA host).isSome = isb := ⟨_, rfl⟩
  rw [hisb] at HF
  have HISB := Lib.hid hisb
  clear hisb
  go_enter Tryz.func19, Tryz.ntmps19
  go_wp2_with fail
  refine HF.out.mono ?_
  rintro e w1 ⟨rfl, k1⟩
  have HK1 := Lib.hid k1
  clear k1 HF
  go_upto_region 2 with fail
  go_cut [8] (fun ov wx => ov = .bool (host.isEmpty || isb) ∧ wx = w1)
  case first =>
    cases host with
    | nil =>
      have hE : (bs []).toList.isEmpty = true := by rw [Lib.toList_data]; rfl
      go_wp2_with fail
      go_meet
      exact ⟨rfl, rfl⟩
    | cons h0 host =>
      have hE := bs_empty h0 host
      go_wp2_with fail
      go_meet
      exact ⟨rfl, rfl⟩
  case rest =>
    obtain ⟨rfl, hwx⟩ := hcut
    obtain rfl := hwx.symm
    clear hwx
    obtain ⟨ok0, hok0⟩ : ∃ ok0, (host.isEmpty || isb) = ok0 := ⟨_, rfl⟩
    rw [hok0]
    have HOK2 := Lib.hid (show (ok0 && fs.all fieldOk) = OK by rw [← HOK.out, ← hok0, ← HISB.out]; rfl)
    obtain ⟨lg0, hlg0⟩ : ∃ lg0, decide ((100 : Int) < (n : Int)) = lg0 := ⟨_, rfl⟩
    have HLG2 := Lib.hid (show (lg0 || fs.any fieldLong) = LG by
      rw [← HLG.out, ← hlg0]
      unfold reqLong
      rw [← HNL.out]
      congr 1
      exact decide_eq_decide.2 (by omega))
    clear hok0
    go_wp2_with fail
    go_loopg [8, 9, 30] fs.length (fun g ov lv iv wx => ∃ (ok lg : Bool) (pre post : List FL), fs = pre ++ post ∧ g = post.length ∧ ov = .bool ok ∧ lv = .bool lg ∧ iv = .int .i64 pre.length ∧ (ok && post.all fieldOk) = OK ∧ (lg || post.any fieldLong) = LG ∧ Keeps [] w wx)
    case atStart => exact ⟨ok0, lg0, [], fs, rfl, rfl, rfl, rfl, rfl, HOK2.out, HLG2.out, HK1.out⟩
    case round =>
      obtain ⟨ok, lg, pre, post, hsp, hg, rfl, rfl, rfl, hok, hlg, hk⟩ := hrel
      subst hg
      have hll : fs.length = pre.length + post.length := by rw [hsp]; simp
      cases post with
      | nil =>
        have hlt : ¬ (pre.length : Int) < (n : Int) := by have := HNL.out; simp at hll; omega
        have h1 : ok = OK := by rw [← hok]; simp
        have h2 : lg = LG := by rw [← hlg]; simp
        subst h1 h2
        have HK := Lib.hid hk
        clear hok hlg hk hll hsp
        cases ok with
        | false =>
          have hn : res = ([], 1) := by rw [← HRES.out]; rfl
          subst hn
          go_wp2_with fail
          exact bodyPost_ret (v := .tuple #[.slice none 0 0, .int .i64 1]) (by simp [results, Tryz.results19, go_sem]) rfl ⟨_, rfl, BytesV.nil _, HK.out⟩
        | true =>
          cases lg with
          | true =>
            have hn : res = ([], 3) := by rw [← HRES.out]; rfl
            subst hn
            go_wp2_with fail
            exact bodyPost_ret (v := .tuple #[.slice none 0 0, .int .i64 3]) (by simp [results, Tryz.results19, go_sem]) rfl ⟨_, rfl, BytesV.nil _, HK.out⟩
          | false =>
            have hn : res = (reqB host fs, 0) := by rw [← HRES.out]; rfl
            subst hn
            go_wp2_with fail
            have hno : ∀ f ∈ fs, f.1.length ≤ 1000 ∧ f.2.length ≤ 1000 := by
              intro f hf
              have h1 : reqLong fs = false := HLG.out
              unfold reqLong at h1
              rw [Bool.or_eq_false_iff] at h1
              have h2 := List.any_eq_false.1 h1.2 f hf
              simp [fieldLong] at h2
              omega
            have hn100 : fs.length ≤ 100 := by
              have h1 : reqLong fs = false := HLG.out
              unfold reqLong at h1
              rw [Bool.or_eq_false_iff] at h1
              have := of_decide_eq_false h1.1
              omega
            have hh253 : host.length ≤ 253 := by
              have h1 : reqOk host fs = true := HOK.out
              unfold reqOk at h1
              rw [Bool.and_eq_true, Bool.or_eq_true] at h1
              rcases h1.1 with h | h
              · simp at h; rw [h]; simp
              · obtain ⟨l, hl⟩ := Option.isSome_iff_exists.1 h
                exact (foldA_some hl).2.1
            have HNO := Lib.hid hno
            clear hno
            go_loopg [12, 75] fs.length (fun g sv iv wx => ∃ pre post : List FL, fs = pre ++ post ∧ g = post.length ∧ sv = .string (bs (reqHead ++ (pre.map lineB).flatten)) ∧ iv = .int .i64 pre.length ∧ (pre.map lineB).flatten.length ≤ pre.length * 2004 ∧ Keeps [] w wx)
            case atStart => exact ⟨[], fs, rfl, rfl, rfl, rfl, by simp, HK.out⟩
            case round =>
              obtain ⟨pre, post, hsp, hg, rfl, rfl, hlb, hk⟩ := hrel
              subst hg
              have hll : fs.length = pre.length + post.length := by rw [hsp]; simp
              have HK3 := Lib.hid hk
              cases post with
              | nil =>
                have hlt : ¬ (pre.length : Int) < (n : Int) := by have := HNL.out; simp at hll; omega
                have hpre : pre = fs := by rw [hsp]; simp
                subst hpre
                clear hk hsp hll
                have hrl : (reqB host pre).length ≤ 300000 := by
                  have h1 : (hostLine host).length ≤ 300 := by unfold hostLine; split <;> simp; omega
                  unfold reqB
                  rw [List.length_append, List.length_append, List.length_append, show reqHead.length = 16 from rfl]
                  simp only [List.length_cons, List.length_nil]
                  omega
                have hcv := Go.Lib.run_convert_string_bytes (P := Tryz.prog) wr 9 22 5 (bs (reqB host pre)) (u := .string) Tryz.underlying9 Tryz.underlying22 Tryz.underlying5
                have HCB := Lib.hid (conv_bytes wr (reqB host pre) (by omega))
                have hsl : (bs (reqHead ++ (pre.map lineB).flatten)).size ≤ 300000 := by rw [bs_size, List.length_append, show reqHead.length = 16 from rfl]; omega
                clear hlb hrl
                cases host with
                | nil =>
                  have hE : (bs []).toList.isEmpty = true := by rw [Lib.toList_data]; rfl
                  have e1 : ¬ 9223372036854775807 < (bs (reqHead ++ (pre.map lineB).flatten)).size + 2 := by omega
                  have happ : bs (reqHead ++ (pre.map lineB).flatten) ++ ⟨#[13, 10]⟩ = bs (reqB [] pre) := by apply ByteArray.ext; simp [bs, reqB, hostLine]
                  clear hsl
                  go_wp2_with fail
                  exact bodyPost_ret (v := .tuple #[.slice (some ⟨wr.heap.size, 0, none⟩) (bs (reqB [] pre)).size (grownCap wr (bs (reqB [] pre)).size 0 5), .int .i64 0]) (by simp [results, Tryz.results19, go_sem]) rfl ⟨_, rfl, HCB.out.1, HK3.out.trans HCB.out.2⟩
                | cons h0 host =>
                  have hE := bs_empty h0 host
                  have e1 : ¬ 9223372036854775807 < 6 + (bs (h0 :: host)).size := by rw [bs_size]; omega
                  have e2 : ¬ 9223372036854775807 < 6 + (bs (h0 :: host)).size + 2 := by rw [bs_size]; omega
                  have e3 : ¬ 9223372036854775807 < (bs (reqHead ++ (pre.map lineB).flatten)).size + (6 + (bs (h0 :: host)).size + 2) := by rw [bs_size (h0 :: host)]; omega
                  have e4 : ¬ 9223372036854775807 < (bs (reqHead ++ (pre.map lineB).flatten)).size + (6 + (bs (h0 :: host)).size + 2) + 2 := by rw [bs_size (h0 :: host)]; omega
                  have happ : bs (reqHead ++ (pre.map lineB).flatten) ++ (⟨#[72, 111, 115, 116, 58, 32]⟩ ++ bs (h0 :: host) ++ ⟨#[13, 10]⟩) ++ ⟨#[13, 10]⟩ = bs (reqB (h0 :: host) pre) := by apply ByteArray.ext; simp [bs, reqB, hostLine]
                  clear hsl
                  go_wp2_with fail
                  exact bodyPost_ret (v := .tuple #[.slice (some ⟨wr.heap.size, 0, none⟩) (bs (reqB (h0 :: host) pre)).size (grownCap wr (bs (reqB (h0 :: host) pre)).size 0 5), .int .i64 0]) (by simp [results, Tryz.results19, go_sem]) rfl ⟨_, rfl, HCB.out.1, HK3.out.trans HCB.out.2⟩
              | cons f post =>
                have hlt : (pre.length : Int) < (n : Int) := by have := HNL.out; simp at hll; omega
                have hlt0 : pre.length < n := by omega
                have hp100 : pre.length < 100 := by simp at hll; omega
                have HSP := Lib.hid hsp
                obtain ⟨g, o, hA, hc⟩ := HFS.out.2.2 (by omega)
                subst hA
                obtain ⟨hc1, hc2⟩ := hc pre.length f (by rw [hsp]; simp)
                have f1 := cell_keeps hk hc1 (by simp)
                have f2 := cell_keeps hk hc2 (by simp)
                obtain ⟨hz1, hz2⟩ := HNO.out f (by rw [hsp]; simp)
                clear hc hc1 hc2 hsp hll hk
                obtain ⟨fa, fb⟩ := f
                dsimp only at f1 f2 hz1 hz2
                obtain ⟨ib, hib⟩ : ∃ ib, wr.heap.size = ib := ⟨_, rfl⟩
                obtain ⟨w2, hw2⟩ : ∃ w2, wr.alloc (.cells #[.string (bs fa), .string (bs fb)] 91) = w2 := ⟨_, rfl⟩
                have k2 : Keeps [] wr w2 := by rw [← hw2]; exact Keeps.alloc [] wr _
                have hb2 : w2.heap[ib]? = some (.cells #[.string (bs fa), .string (bs fb)] 91 (0, 0)) := by rw [← hw2, ← hib]; exact (MapKept.heap_alloc wr _).1
                have d1 : w2.cell? ⟨ib, 0, none⟩ = some (.string (bs fa)) := cell_of_block hb2 0
                have d2 : w2.cell? ⟨ib, 1, none⟩ = some (.string (bs fb)) := cell_of_block hb2 1
                have HK4 := Lib.hid (HK3.out.trans k2)
                clear k2 hb2
                go_upto_region 18 with fail
                clear hw2 f1 f2
                have e1 : ¬ 9223372036854775807 < (bs fa).size + 2 := by rw [bs_size]; omega
                have e2 : ¬ 9223372036854775807 < (bs fa).size + 2 + (bs fb).size := by rw [bs_size, bs_size]; omega
                have e3 : ¬ 9223372036854775807 < (bs fa).size + 2 + (bs fb).size + 2 := by rw [bs_size, bs_size]; omega
                have hfl : (reqHead ++ (pre.map lineB).flatten).length ≤ 300000 := by rw [List.length_append, show reqHead.length = 16 from rfl]; omega
                have e4 : ¬ 9223372036854775807 < (bs (reqHead ++ (pre.map lineB).flatten)).size + ((bs fa).size + 2 + (bs fb).size + 2) := by rw [bs_size, bs_size, bs_size]; omega
                have HLB := Lib.hid hlb
                clear hlb hfl
                go_wp2_with fail
                go_roundg post.length
                case measure => simp
                case rel => exact ⟨pre ++ [(fa, fb)], post, by rw [HSP.out]; simp, rfl, congrArg Value.string (by apply ByteArray.ext; simp [bs, lineB]), by simp, by have := HLB.out; simp [lineB]; simp at this; omega, HK4.out⟩
      | cons f post =>
        have hlt : (pre.length : Int) < (n : Int) := by have := HNL.out; simp at hll; omega
        have hlt0 : pre.length < n := by omega
        have HSP := Lib.hid hsp
        have HOKR := Lib.hid hok
        have HLGR := Lib.hid hlg
        have HK := Lib.hid hk
        obtain ⟨g, o, hA, hc⟩ := HFS.out.2.2 (by omega)
        subst hA
        obtain ⟨hc1, hc2⟩ := hc pre.length f (by rw [hsp]; simp)
        have f1 := cell_keeps hk hc1 (by simp)
        have f2 := cell_keeps hk hc2 (by simp)
        obtain ⟨hz1, hz2⟩ := HSZ.out f (by rw [hsp]; simp)
        have HEF := Lib.hid (HEQ.out f (by rw [hsp]; simp))
        clear hc hc1 hc2 hok hlg hsp hll hk
        obtain ⟨fa, fb⟩ := f
        dsimp only at f1 f2 hz1 hz2 HEF
        obtain ⟨ib, hib⟩ : ∃ ib, wr.heap.size = ib := ⟨_, rfl⟩
        obtain ⟨w2, hw2⟩ : ∃ w2, wr.alloc (.cells #[.string (bs fa), .string (bs fb)] 91) = w2 := ⟨_, rfl⟩
        have k2 : Keeps [] wr w2 := by rw [← hw2]; exact Keeps.alloc [] wr _
        have hb2 : w2.heap[ib]? = some (.cells #[.string (bs fa), .string (bs fb)] 91 (0, 0)) := by rw [← hw2, ← hib]; exact (MapKept.heap_alloc wr _).1
        have d1 : w2.cell? ⟨ib, 0, none⟩ = some (.string (bs fa)) := cell_of_block hb2 0
        have d2 : w2.cell? ⟨ib, 1, none⟩ = some (.string (bs fb)) := cell_of_block hb2 1
        have HK2 := Lib.hid (HK.out.trans k2)
        clear k2 hb2
        go_upto_region 7 with fail
        clear hw2 f1 f2
        go_cut [8] (fun ov wx => ov = .bool (ok && fieldOk (fa, fb)) ∧ wx = w2)
        case first =>
          cases ok with
          | false =>
            go_wp2_with fail
            go_meet
            exact ⟨rfl, rfl⟩
          | true =>
            cases fa with
            | nil =>
              have hE : (bs []).toList.isEmpty = true := by rw [Lib.toList_data]; rfl
              go_wp2_with fail
              go_meet
              exact ⟨rfl, rfl⟩
            | cons a fa =>
              have hE := bs_empty a fa
              have HBW := Lib.hid (bytewise_any w2 (a :: fa) _ wordB hz1 (isF_worded [] w2))
              obtain ⟨b1, hb1⟩ : ∃ b1, (a :: fa).all wordB = b1 := ⟨_, rfl⟩
              rw [hb1] at HBW
              have HB1 := Lib.hid hb1
              clear hb1
              go_wp2_with fail
              refine HBW.out.mono ?_
              rintro e w3 ⟨rfl, hw⟩
              obtain rfl := hw.symm
              clear hw HBW
              cases b1 with
              | false =>
                go_wp2_with fail
                go_meet
                exact ⟨by simp [fieldOk, HB1.out], rfl⟩
              | true =>
                have HBS := Lib.hid (bytewise_any w2 fb _ shownB hz2 (isF_shown [] w2))
                obtain ⟨b2, hb2⟩ : ∃ b2, fb.all shownB = b2 := ⟨_, rfl⟩
                rw [hb2] at HBS
                have HB2 := Lib.hid hb2
                clear hb2
                go_wp2_with fail
                refine HBS.out.mono ?_
                rintro e w3 ⟨rfl, hw⟩
                obtain rfl := hw.symm
                clear hw HBS
                cases b2 with
                | false =>
                  go_wp2_with fail
                  go_meet
                  exact ⟨by simp [fieldOk, HB2.out], rfl⟩
                | true =>
                  have HE3 := Lib.hid (HEF.out w2 HB1.out)
                  obtain ⟨b3, hb3⟩ : ∃ b3, equalFold (a :: fa) hostL = b3 := ⟨_, rfl⟩
                  rw [hb3] at HE3
                  have HB3 := Lib.hid hb3
                  clear hb3
                  go_wp2_with fail
                  refine HE3.out.mono ?_
                  rintro e w3 ⟨rfl, hw⟩
                  obtain rfl := hw.symm
                  clear hw HE3
                  go_wp2_with fail
                  go_meet
                  exact ⟨by simp [fieldOk, HB1.out, HB2.out, HB3.out], rfl⟩
        case rest =>
          obtain ⟨rfl, hwx⟩ := hcut
          obtain rfl := hwx.symm
          clear hwx HEF
          have HN8 := Lib.hid (show ((ok && fieldOk (fa, fb)) && post.all fieldOk) = OK by rw [← HOKR.out]; simp [Bool.and_assoc])
          obtain ⟨ok', hok'⟩ : ∃ ok', (ok && fieldOk (fa, fb)) = ok' := ⟨_, rfl⟩
          rw [hok'] at HN8 ⊢
          clear hok' HOKR
          have s1 : (bs fa).size = fa.length := rfl
          have s2 : (bs fb).size = fb.length := rfl
          obtain ⟨M, hM⟩ : ∃ M : Nat, max fa.length fb.length = M := ⟨_, rfl⟩
          have hmx : max (fa.length : Int) (fb.length : Int) = (M : Int) := by omega
          have hfl : fieldLong (fa, fb) = decide ((1000 : Int) < (M : Int)) := by
            unfold fieldLong
            rw [← Bool.decide_or]
            exact decide_eq_decide.2 (by simp only; omega)
          have HFL := Lib.hid hfl
          clear hfl hM
          have HLG8 := Lib.hid (show ((lg || fieldLong (fa, fb)) || post.any fieldLong) = LG by rw [← HLGR.out]; simp [Bool.or_assoc])
          clear HLGR
          rw [HFL.out] at HLG8
          cases lg with
          | true =>
            clear hmx
            go_wp2_with fail
            go_roundg post.length
            case measure => simp
            case rel => exact ⟨ok', true, pre ++ [(fa, fb)], post, by rw [HSP.out]; simp, rfl, rfl, rfl, by simp, HN8.out, by rw [← HLG8.out]; simp, HK2.out⟩
          | false =>
            go_wp2_with fail
            go_roundg post.length
            case measure => simp
            case rel => exact ⟨ok', decide ((1000 : Int) < (M : Int)), pre ++ [(fa, fb)], post, by rw [HSP.out]; simp, rfl, rfl, rfl, by simp, HN8.out, by rw [← HLG8.out]; simp, HK2.out⟩
end Go.Proofs.YtpoheemjdieogaaGreatDoor
