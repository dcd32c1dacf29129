/-
  The walks of http.reader's methods: peek, next, run, text. Condition: the reader lies in memory with what is left; the test is a function of one byte.
-/
import Derived.Test.YtocnkiojlifgpaaGreatDoorHttpW
namespace Go.Proofs.YtocnkiojlifgpaaGreatDoor
open Go.RowKit Go.Lib
set_option linter.unusedVariables false
set_option linter.unusedSimpArgs false

/-- a string of bytes -/
def bs (l : List UInt8) : ByteArray := ⟨l.toArray⟩
/-- the reader, and what is left -/
def RdS (w : World) (r : Nat) (l : List UInt8) : Prop := w.heap[r]? = some (.cells #[.string (bs l)] 326 (0, 0))
/-- what a reading is given up with -/
def ha (k : Int) : List PanicEntry := [{ v := .iface 323 (.int .i64 k), recovered := false }]
/-- how a reading ends -/
def OutH {α : Type} (w : World) (r : Nat) (x : RH α) (val : α → Value) (en : Ending) (w' : World) : Prop :=
  Keeps [r] w w' ∧ match x with
  | .ok (a, l') => en = .returned (val a) ∧ RdS w' r l'
  | .error k => en = .panicked (ha k)
theorem RdS.keep {w w' : World} {r : Nat} {l : List UInt8} {S : List Nat} (h : RdS w r l) (k : Keeps S w w') (hS : r ∉ S) : RdS w' r l := (k.block r (lt_of_block h) hS).trans h
/-- a function of one byte that tells p -/
def IsF (S : List Nat) (w : World) (fv : Value) (p : UInt8 → Bool) : Prop := ∃ F A1 C1, fv = .func (.func F) A1 C1 ∧ (∀ args w, (callFunc F args).run Tryz.prog w = .ok (.enter F args) w) ∧ ∀ w', Keeps S w w' → ∀ c : UInt8, Calls Tryz.prog F (A1.push (.int .u8 c.toNat) ++ C1) w' fun e w'' => e = .returned (.bool (p c)) ∧ w'' = w'
theorem bs_size (l : List UInt8) : (bs l).size = l.length := rfl
theorem bs_empty (c : UInt8) (l : List UInt8) : (bs (c :: l)).toList.isEmpty = false := by rw [Lib.toList_data]; rfl
def peekE : List UInt8 → Ending
  | [] => .panicked (ha 0)
  | c :: _ => .returned (.int .u8 c.toNat)
set_option maxRecDepth 100000 in
theorem peek_any (w : World) (r : Nat) (l : List UInt8) (h : RdS w r l) : Calls Tryz.prog 254 #[.pointer (some ⟨r, 0, none⟩)] w fun e w' => e = peekE l ∧ w' = w := by
  have c0 : w.cell? ⟨r, 0, none⟩ = some (.string (bs l)) := cell_of_block h 0
  clear h
  cases l with
  | nil =>
    have hE : (bs []).toList.isEmpty = true := by rw [Lib.toList_data]; rfl
    go_enter Tryz.func254, Tryz.ntmps254
    go_wp2_with fail
    exact ⟨rfl, rfl, rfl⟩
  | cons c l =>
    have hE := bs_empty c l
    have hsz : (bs (c :: l)).size = l.length + 1 := rfl
    go_enter Tryz.func254, Tryz.ntmps254
    go_wp2_with fail
    go_ret
    exact ⟨rfl, rfl⟩
theorem peek_some (w : World) (r : Nat) (c : UInt8) (l : List UInt8) (h : RdS w r (c :: l)) : Calls Tryz.prog 254 #[.pointer (some ⟨r, 0, none⟩)] w fun e w' => e = .returned (.int .u8 c.toNat) ∧ w' = w := peek_any w r (c :: l) h
theorem peek_none (w : World) (r : Nat) (h : RdS w r []) : Calls Tryz.prog 254 #[.pointer (some ⟨r, 0, none⟩)] w fun e w' => e = .panicked (ha 0) ∧ w' = w := peek_any w r [] h
theorem bs_tail (c : UInt8) (l : List UInt8) (n : Nat) (h : n = l.length + 1) : (bs (c :: l)).extract 1 n = bs l := by
  subst h
  apply ByteArray.ext
  simp [bs]
theorem rd_set {w : World} {r : Nat} {l l' : List UInt8} (h : RdS w r l) : RdS (w.setCell ⟨r, 0, none⟩ (.string (bs l'))) r l' ∧ Keeps [r] w (w.setCell ⟨r, 0, none⟩ (.string (bs l'))) := by
  refine ⟨?_, Keeps.setCell w ⟨r, 0, none⟩ _⟩
  have := heap_setCell_self h 0 (.string (bs l'))
  simpa [RdS] using this
set_option maxRecDepth 100000 in
set_option maxHeartbeats 2000000 in
theorem next_any (w : World) (r : Nat) (l : List UInt8) (fv : Value) (p : UInt8 → Bool) (h : RdS w r l) (hf : IsF [] w fv p) : Calls Tryz.prog 255 #[.pointer (some ⟨r, 0, none⟩), fv] w fun e w' => OutH w r (nextH p l) (fun c => .int .u8 c.toNat) e w' := by
  obtain ⟨F, A1, C1, rfl, hF, hcall⟩ := hf
  cases l with
  | nil =>
    have HP := Lib.hid (peek_none w r h)
    have hn : nextH p [] = .error 0 := rfl
    rw [hn]
    clear h hn
    go_enter Tryz.func255, Tryz.ntmps255
    go_wp2_with fail
    refine HP.out.mono ?_
    rintro e w1 ⟨rfl, rfl⟩
    go_wp2_with fail
    exact ⟨rfl, Keeps.refl _ _, rfl⟩
  | cons c l =>
    have HP := Lib.hid (peek_some w r c l h)
    have HR := Lib.hid h
    have c0 : w.cell? ⟨r, 0, none⟩ = some (.string (bs (c :: l))) := cell_of_block h 0
    have z0 : w.frozen? ⟨r, 0, none⟩ = false := free_of_block h 0
    have hsz : (bs (c :: l)).size = l.length + 1 := rfl
    have htl := bs_tail c l (l.length + 1) rfl
    have HC := Lib.hid (hcall w (Keeps.refl _ _) c)
    clear h hcall
    by_cases hp : p c = true
    · rw [hp] at HC
      have hn : nextH p (c :: l) = .ok (c, l) := by simp [nextH, hp]
      rw [hn]
      clear hn hp
      go_enter Tryz.func255, Tryz.ntmps255
      go_wp2_with fail
      refine HP.out.mono ?_
      rintro e w1 ⟨rfl, hw⟩
      obtain rfl := hw.symm
      clear hw
      go_wp2_with fail
      refine HC.out.mono ?_
      rintro e w2 ⟨rfl, hw⟩
      obtain rfl := hw.symm
      clear hw
      go_wp2_with fail
      go_ret
      exact ⟨(rd_set HR.out).2, rfl, (rd_set HR.out).1⟩
    · have hp' : p c = false := by simpa using hp
      rw [hp'] at HC
      have hn : nextH p (c :: l) = .error 3 := by simp [nextH, hp']
      rw [hn]
      clear hn hp hp'
      go_enter Tryz.func255, Tryz.ntmps255
      go_wp2_with fail
      refine HP.out.mono ?_
      rintro e w1 ⟨rfl, hw⟩
      obtain rfl := hw.symm
      clear hw
      go_wp2_with fail
      refine HC.out.mono ?_
      rintro e w2 ⟨rfl, hw⟩
      obtain rfl := hw.symm
      clear hw
      go_wp2_with fail
      exact ⟨rfl, Keeps.refl _ _, rfl⟩
theorem run_none {p : UInt8 → Bool} : ∀ x : List UInt8, (∀ b ∈ x, p b = true) → runH p x = .error 0
  | [], _ => rfl
  | c :: x, h => by
    have hc := h c (by simp)
    simp only [runH, hc, if_true, run_none x (fun b hb => h b (by simp [hb])), bindH_err]
theorem run_some {p : UInt8 → Bool} {c : UInt8} {l : List UInt8} (hp : p c = false) : ∀ x : List UInt8, (∀ b ∈ x, p b = true) → runH p (x ++ c :: l) = .ok (x, c :: l)
  | [], _ => by simp [runH, hp]
  | d :: x, h => by
    have hc := h d (by simp)
    simp only [List.cons_append, runH, hc, if_true, run_some hp x (fun b hb => h b (by simp [hb])), bindH_ok]
theorem bs_head (x l : List UInt8) (n : Nat) (h : n = x.length) : (bs (x ++ l)).extract 0 n = bs x := by
  subst h
  apply ByteArray.ext
  simp [bs]
theorem IsF.mono {S T : List Nat} {w w' : World} {fv : Value} {p : UInt8 → Bool} (h : IsF S w fv p) (k : Keeps S w w') (hT : ∀ x ∈ T, x ∈ S) : IsF T w' fv p := by
  obtain ⟨F, A1, C1, h1, h2, h3⟩ := h
  exact ⟨F, A1, C1, h1, h2, fun w'' k' => h3 w'' (k.trans (k'.mono hT))⟩
set_option maxRecDepth 100000 in
set_option maxHeartbeats 2000000 in
theorem run_any (w : World) (r : Nat) (l : List UInt8) (fv : Value) (p : UInt8 → Bool) (h : RdS w r l) (hl : l.length ≤ 1000000) (hf : IsF [r] w fv p) : Calls Tryz.prog 256 #[.pointer (some ⟨r, 0, none⟩), fv] w fun e w' => OutH w r (runH p l) (fun x => .string (bs x)) e w' := by
  obtain ⟨F, A1, C1, rfl, hF, hcall⟩ := hf
  have HC := Lib.hid hcall
  have HR := Lib.hid h
  have c0 : w.cell? ⟨r, 0, none⟩ = some (.string (bs l)) := cell_of_block h 0
  obtain ⟨res, hres⟩ : ∃ res, runH p l = res := ⟨_, rfl⟩
  rw [hres]
  have HRES := Lib.hid hres
  clear h hcall hres
  go_enter Tryz.func256, Tryz.ntmps256
  go_wp2_with fail
  clear c0
  go_loopg [] l.length (fun g wx => ∃ x l' : List UInt8, l = x ++ l' ∧ g = l'.length ∧ (∀ b ∈ x, p b = true) ∧ RdS wx r l' ∧ Keeps [r] w wx)
  case atStart => exact ⟨[], l, rfl, rfl, by simp, HR.out, Keeps.refl _ _⟩
  case round =>
    obtain ⟨x, l', hxl, hg, hx, hr, hk⟩ := hrel
    subst hg
    have hll : l.length = x.length + l'.length := by rw [hxl]; simp
    have HXL := Lib.hid hxl
    clear hxl
    cases l' with
    | nil =>
      have HP := Lib.hid (peek_none wr r hr)
      have hn : res = .error 0 := by rw [← HRES.out, HXL.out, List.append_nil]; exact run_none x hx
      subst hn
      have HK := Lib.hid hk
      clear hk hr hx
      go_wp2_with fail
      refine HP.out.mono ?_
      rintro e w1 ⟨rfl, rfl⟩
      go_wp2_with fail
      exact ⟨rfl, HK.out, rfl⟩
    | cons c l' =>
      have HP := Lib.hid (peek_some wr r c l' hr)
      have HCC := Lib.hid (HC.out wr hk c)
      have HK := Lib.hid hk
      have HRD := Lib.hid hr
      have c0 : wr.cell? ⟨r, 0, none⟩ = some (.string (bs (c :: l'))) := cell_of_block hr 0
      have z0 : wr.frozen? ⟨r, 0, none⟩ = false := free_of_block hr 0
      have HX := Lib.hid hx
      clear hk hr hx
      have hsz : (bs (c :: l')).size = l'.length + 1 := rfl
      by_cases hp : p c = true
      · have htl := bs_tail c l' (l'.length + 1) rfl
        rw [hp] at HCC
        go_wp2_with fail
        refine HP.out.mono ?_
        rintro e w1 ⟨rfl, hw⟩
        obtain rfl := hw.symm
        clear hw
        go_wp2_with fail
        refine HCC.out.mono ?_
        rintro e w2 ⟨rfl, hw⟩
        obtain rfl := hw.symm
        clear hw
        go_wp2_with fail
        go_roundg l'.length
        case measure => simp
        case rel => exact ⟨x ++ [c], l', by rw [HXL.out]; simp, rfl, fun b hb => by
          rcases List.mem_append.1 hb with h | h
          · exact HX.out b h
          · rw [List.mem_singleton.1 h]; exact hp, (rd_set HRD.out).1, HK.out.trans (rd_set HRD.out).2⟩
      · have hp' : p c = false := by simpa using hp
        rw [hp'] at HCC
        have hn : res = .ok (x, c :: l') := by rw [← HRES.out, HXL.out]; exact run_some hp' x HX.out
        subst hn
        have hlz : (bs l).size = x.length + (l'.length + 1) := by rw [bs_size, hll]; rfl
        have hcut : (bs l).extract 0 x.length = bs x := by rw [HXL.out]; exact bs_head x _ _ rfl
        have hw64 : wrap64 (((bs l).size : Int) - ((bs (c :: l')).size : Int)) = (x.length : Int) := by
          rw [hlz, hsz]; unfold wrap64; omega
        clear hp hp'
        go_wp2_with fail
        refine HP.out.mono ?_
        rintro e w1 ⟨rfl, hw⟩
        obtain rfl := hw.symm
        clear hw
        go_wp2_with fail
        refine HCC.out.mono ?_
        rintro e w2 ⟨rfl, hw⟩
        obtain rfl := hw.symm
        clear hw
        go_wp2_with fail
        go_ret
        exact ⟨HK.out, rfl, HRD.out⟩
theorem bs_mid (pre post : List UInt8) (x : UInt8) (h : pre.length < (bs (pre ++ x :: post)).size) : (bs (pre ++ x :: post))[pre.length] = x := by
  have h1 := Lib.data_getElem? (bs (pre ++ x :: post)) pre.length h
  have h2 : (bs (pre ++ x :: post)).data.toList[pre.length]? = some x := by
    show (pre ++ x :: post)[pre.length]? = some x
    simp
  exact Option.some.inj (h1.symm.trans h2)
set_option maxRecDepth 100000 in
set_option maxHeartbeats 2000000 in
theorem text1_any (w : World) (pre post : List UInt8) (x c : UInt8) (sb ib : Nat) (hs : w.cell? ⟨sb, 0, none⟩ = some (.string (bs (pre ++ x :: post)))) (hi : w.cell? ⟨ib, 0, none⟩ = some (.int .i64 pre.length)) :
    Calls Tryz.prog 275 #[.int .u8 c.toNat, .pointer (some ⟨sb, 0, none⟩), .pointer (some ⟨ib, 0, none⟩)] w fun e w' => e = .returned (.bool (c == x)) ∧ w' = w := by
  have hsz : (bs (pre ++ x :: post)).size = pre.length + (post.length + 1) := by rw [bs_size]; simp
  have hlt : pre.length < (bs (pre ++ x :: post)).size := by omega
  have hget := bs_mid pre post x hlt
  have hlt2 : (pre.length : Int) < ((bs (pre ++ x :: post)).size : Int) := by omega
  have heq : ((c.toNat : Int) == (x.toNat : Int)) = (c == x) := by
    rw [Bool.eq_iff_iff, beq_iff_eq, beq_iff_eq]
    constructor
    · intro h; exact UInt8.toNat_inj.1 (by omega)
    · intro h; rw [h]
  go_enter Tryz.func275, Tryz.ntmps275
  go_wp2_with fail
  go_ret
  exact ⟨rfl, rfl⟩
set_option maxRecDepth 100000 in
set_option maxHeartbeats 2000000 in
theorem text_any (w : World) (r : Nat) (l s : List UInt8) (h : RdS w r l) (hs : s.length ≤ 1000) : Calls Tryz.prog 257 #[.pointer (some ⟨r, 0, none⟩), .string (bs s)] w fun e w' => OutH w r (textH s l) (fun _ => .tuple #[]) e w' := by
  obtain ⟨res, hres⟩ : ∃ res, textH s l = res := ⟨_, rfl⟩
  rw [hres]
  obtain ⟨sb, hsb⟩ : ∃ sb, w.heap.size = sb := ⟨_, rfl⟩
  obtain ⟨w1, hw1⟩ : ∃ w1, w.alloc (.cells #[.string (bs s)] 9) = w1 := ⟨_, rfl⟩
  have k1 : Keeps [] w w1 := by rw [← hw1]; exact Keeps.alloc [] w _
  have hb1 : w1.heap[sb]? = some (.cells #[.string (bs s)] 9 (0, 0)) := by rw [← hw1, ← hsb]; exact (MapKept.heap_alloc w _).1
  have hr1 : RdS w1 r l := h.keep k1 (by simp)
  have hrs : r < sb := by rw [← hsb]; exact lt_of_block h
  have hmf : ∀ (fn : Fn) (first cap : Array Value) (w : World), (Instr.makeFunc fn first cap).run Tryz.prog w = .ok (.func fn first cap) w := fun _ _ _ _ => rfl
  have s1 : w1.cell? ⟨sb, 0, none⟩ = some (.string (bs s)) := cell_of_block hb1 0
  have hsz : (bs s).size = s.length := rfl
  have HB := Lib.hid hb1
  have HRES := Lib.hid hres
  have HK1 := Lib.hid k1
  have HR1 := Lib.hid hr1
  clear h hres k1 hb1 hr1
  go_enter Tryz.func257, Tryz.ntmps257
  go_wp2_with fail
  go_loopg [7] s.length (fun g v wx => ∃ pre post l' : List UInt8, s = pre ++ post ∧ g = post.length ∧ v = .int .i64 pre.length ∧ textH post l' = res ∧ RdS wx r l' ∧ Keeps [r] w1 wx)
  case atStart => exact ⟨[], s, l, rfl, rfl, rfl, HRES.out, HR1.out, Keeps.refl _ _⟩
  case round =>
    obtain ⟨pre, post, l', hsp, hg, rfl, hte, hr, hk⟩ := hrel
    subst hg
    have hll : s.length = pre.length + post.length := by rw [hsp]; simp
    have HSP := Lib.hid hsp
    clear hsp
    cases post with
    | nil =>
      have hlt : ¬ (pre.length : Int) < (s.length : Int) := by simp at hll; omega
      have hn : res = .ok ((), l') := by rw [← hte]; rfl
      subst hn
      have HK := Lib.hid ((HK1.out.mono (T := [r]) (by simp)).trans hk)
      have HRD := Lib.hid hr
      clear hte hr hk hll
      go_wp2_with fail
      exact bodyPost_ret (v := .tuple #[]) (by simp [results, Tryz.results257, go_sem]) rfl ⟨HK.out.fresh (fun x hx hl => hx), rfl, HRD.out⟩
    | cons x post =>
      have hlt : (pre.length : Int) < (s.length : Int) := by simp at hll; omega
      clear hll
      have HTE := Lib.hid hte
      obtain ⟨ib, hib⟩ : ∃ ib, wr.heap.size = ib := ⟨_, rfl⟩
      have hsbl : sb < ib := by rw [← hib]; exact Nat.lt_of_lt_of_le (lt_of_block HB.out) hk.size
      have HS := Lib.hid ((hk.block sb (lt_of_block HB.out) (by simp; omega)).trans HB.out)
      obtain ⟨w2, hw2⟩ : ∃ w2, (wr.alloc (.cells #[.int .i64 0] 3)).setCell ⟨ib, 0, none⟩ (.int .i64 pre.length) = w2 := ⟨_, rfl⟩
      have ka : Keeps [] wr w2 := by
        rw [← hw2]
        exact (Keeps.alloc [] wr _).setCell' (.inl (by rw [← hib]; exact Nat.le_refl _)) _
      have hi2 : w2.heap[ib]? = some (.cells #[.int .i64 pre.length] 3 (0, 0)) := by
        rw [← hw2]
        have h1 : (wr.alloc (.cells #[.int .i64 0] 3)).heap[ib]? = some (.cells #[.int .i64 0] 3 (0, 0)) := by rw [← hib]; exact (MapKept.heap_alloc wr _).1
        simpa using heap_setCell_self h1 0 (.int .i64 pre.length)
      have hs2 := (ka.block sb (lt_of_block HS.out) (by simp)).trans HS.out
      have hr2 : RdS w2 r l' := hr.keep ka (by simp)
      have HN := Lib.hid (next_any w2 r l' (.func (.func 275) #[] #[.pointer (some ⟨sb, 0, none⟩), .pointer (some ⟨ib, 0, none⟩)]) (· == x) hr2 ⟨_, _, _, rfl, enters_of Tryz.func275 (by kernel_rfl) rfl, fun w' k c => text1_any w' pre post x c sb ib (cell_keeps k (by rw [← HSP.out]; exact cell_of_block hs2 0) (by simp)) (cell_keeps k (cell_of_block hi2 0) (by simp))⟩)
      have HK := Lib.hid (((hk.trans (ka.mono (T := [r]) (by simp)))))
      have HKR := Lib.hid hk
      clear hte hr hk hr2 hs2 hi2 ka hw1 hsz s1
      go_wp2_with fail
      refine HN.out.mono ?_
      rintro e w3 ⟨k3, ho⟩
      have HK3 := Lib.hid k3
      clear k3 HN
      cases hnx : nextH (fun y => y == x) l' with
      | error k =>
        rw [hnx] at ho
        dsimp only at ho
        subst ho
        have hn : res = .error k := by rw [← HTE.out]; simp [textH, hnx, bindH]
        subst hn
        clear hnx
        go_wp2_with fail
        exact ⟨rfl, (((HK1.out.mono (T := [r]) (by simp)).trans HK.out).trans HK3.out), rfl⟩
      | ok y =>
        obtain ⟨c, l''⟩ := y
        rw [hnx] at ho
        dsimp only at ho
        obtain ⟨rfl, hr3⟩ := ho
        have HR3 := Lib.hid hr3
        have HNX := Lib.hid hnx
        clear hnx hr3
        go_wp2_with fail
        go_roundg post.length
        case measure => simp
        case rel => exact ⟨pre ++ [x], post, l'', by rw [HSP.out]; simp, rfl, by simp, by rw [← HTE.out]; simp [textH, HNX.out, bindH], HR3.out, HK.out.trans HK3.out⟩
end Go.Proofs.YtocnkiojlifgpaaGreatDoor
