/-
  The walks of policy.named, forward.Inside and policy.leads. Condition: the library's tables lie as the row lists them; the numbers are in the ranges of their kinds.
-/
import Derived.Test.YtbmkdnkiojapbaaDoorFoldW
import Derived.Test.YtbmkdnkiojapbaaDoorKitS
import Derived.Deep.MidRow
namespace Go.Proofs.YtbmkdnkiojapbaaDoor
open Go.RowKit Go.Lib
set_option linter.unusedVariables false
set_option linter.unusedSimpArgs false

/-- a rule -/
structure PR where
  name : ByteArray
  deny : Bool
  addr : Int
  port : Int
deriving DecidableEq
/-- as it lies in memory -/
def encPR (r : PR) : Value := .agg #[.string r.name, .bool r.deny, .int .u32 r.addr, .int .u16 r.port]
def zeroPR : PR := ⟨ByteArray.empty, false, 0, 0⟩
/-- the places of a config that a policy looks at: the inside network, its mask, the outer address -/
structure PC where
  inside : Int
  mask : Int
  outer : Int
/-- the others -/
structure PCR where
  lo : Int
  hi : Int
  qu : Int
  fl : Int
  wa : Option Addr
  wn : Nat
  wc : Nat
  sn : Int
  ms : Int
  sc : Int
  sk : Bool
  ky : Int
  ra : Option Addr
  rn : Nat
  rc : Nat
  fa : Option Addr
  fn : Nat
  fc : Nat
  rt : Int
  tr : Int
  dl : Int
  wt : Int
def cfgV (c : PC) (r : PCR) : Value := .agg #[.int .u32 c.inside, .int .u32 c.mask, .int .u32 c.outer, .int .u16 r.lo, .int .u16 r.hi, .int .u64 r.qu, .int .i64 r.fl, .slice r.wa r.wn r.wc, .int .i64 r.sn, .int .u16 r.ms, .int .i64 r.sc, .bool r.sk, .int .u64 r.ky, .slice r.ra r.rn r.rc, .slice r.fa r.fn r.fc, .int .u64 r.rt, .int .i64 r.tr, .int .u64 r.dl, .int .u64 r.wt]

/-- the name without '*.' -/
def hostB (s : ByteArray) : ByteArray := ⟨(trimPrefix s.data.toList [42, 46]).toArray⟩
def namedOk (s : ByteArray) : Bool := s.toList.isEmpty || (foldIs (hostB s) && (foldB (hostB s)).toList == (hostB s).toList)

set_option maxRecDepth 100000 in
set_option maxHeartbeats 2000000 in
theorem named_any (w : World) (hw : LW w) (s : ByteArray) : Calls Tryd.prog 30 #[.string s] w fun e w' => e = .returned (.bool (namedOk s)) ∧ Keeps [] w w' := by
  have HW := Lib.hid hw
  clear hw
  obtain ⟨h, hh⟩ : ∃ h, hostB s = h := ⟨_, rfl⟩
  obtain ⟨z, hz⟩ : ∃ z, namedOk s = z := ⟨_, rfl⟩
  rw [hz]
  unfold namedOk at hz
  rw [hh] at hz
  obtain ⟨ei, hei⟩ : ∃ ei, s.toList.isEmpty = ei := ⟨_, rfl⟩
  obtain ⟨fi, hfi⟩ : ∃ fi, foldIs h = fi := ⟨_, rfl⟩
  obtain ⟨fb, hfb⟩ : ∃ fb, foldB h = fb := ⟨_, rfl⟩
  obtain ⟨q, hq⟩ : ∃ q, (fb.toList == h.toList) = q := ⟨_, rfl⟩
  rw [hei, hfi, hfb, hq] at hz
  have HH := Lib.hid hh
  have HF := Lib.hid hfi
  have HB := Lib.hid hfb
  clear hh hfi hfb
  cases ei <;> cases fi <;> cases q <;> simp at hz <;> subst hz
  all_goals
    go_enter Tryd.func30, Tryd.ntmps30
    go_wp2_with fail
    refine (Any.strings_TrimPrefix Tryd.trimL s ⟨#[42, 46]⟩ w).mono ?_
    rintro e w1 ⟨rfl, rfl⟩
    rw [show (⟨(trimPrefix s.data.toList (⟨#[42, 46]⟩ : ByteArray).data.toList).toArray⟩ : ByteArray) = h from HH.out]
    go_wp2_with fail
    refine (fold_any _ HW.out h).mono ?_
    rintro e w2 ⟨rfl, k2⟩
    rw [HF.out, HB.out]
    have K2 := Lib.hid k2
    clear k2
    go_wp2_with fail
    go_ret
    exact ⟨by first | rfl | (simp; done), K2.out⟩

/-- c.Inside's network -/
def insideOf (c : PC) (a : Int) : Bool := bits BinOp.and IntKind.u32 (bits BinOp.xor IntKind.u32 a c.inside) c.mask == 0
set_option maxRecDepth 100000 in
set_option maxHeartbeats 2000000 in
theorem inside_any (w : World) (c : PC) (r : PCR) (a : Int) : Calls Tryd.prog 52 #[cfgV c r, .int .u32 a] w fun e w' => e = .returned (.bool (insideOf c a)) ∧ Keeps [] w w' := by
  unfold cfgV
  go_enter Tryd.func52, Tryd.ntmps52
  go_wp2_with fail
  go_ret
  exact ⟨rfl, by first | exact Keeps.alloc [] w _ | exact (Keeps.refl [] w).alloc' _⟩

theorem range_box (w : World) (cs : List Value) (t : TypeId) : (w.alloc (.cells cs.toArray t)).rangeAt w.heap.size 0 cs := by
  intro j v hj
  rw [Nat.zero_add, World.cell?]
  have hh := (MapKept.heap_alloc w (.cells cs.toArray t)).1
  simp only [hh]
  simpa using hj
theorem rangeAt_keeps {S : List Nat} {w w' : World} (k : Keeps S w w') {b o : Nat} {cs : List Value} (h : w.rangeAt b o cs) (hS : b ∉ S) : w'.rangeAt b o cs := fun j v hj => cell_keeps k (h j v hj) hS

theorem wpList_load_want {P : Program} {ops : Array Oper} {rest : List Oper} {op : Oper} {a : Act} {w : World} {Q : Exit → Act → World → Prop} (ty : TypeId) (x : Operand) (ho : op.op = .load ty x)
    (hw : Region.wanted op (yielded ops a.tmps) = true)
    (b o : Nat) (hx : a.eval x = .pointer (some ⟨b, o, none⟩)) (cs : List Value) (d : TypeDesc) (hc : w.rangeAt b o cs)
    (hu : P.underlying ty = some d) (hd : d.isRow = true) (hi : (P.info? ty).map (·.size) = some cs.length)
    (h : wpList P ops Q rest (a.put op.dst (.agg cs.toArray)) w) : wpList P ops Q (op :: rest) a w :=
  BigFrame.wpList_want hw fun _ hK => wp_load_mid ty x ho b o hx cs d hc hu hd hi (hK _ _ h)
def leadsOk (c : PC) (r : PR) : Bool := if r.deny then r.addr == 0 && r.port == 0 else r.addr != 0 && r.port != 0 && r.addr != c.outer && !insideOf c r.addr
set_option maxRecDepth 100000 in
set_option maxHeartbeats 2000000 in
theorem leads_d0 (w : World) (c : PC) (r : PCR) (xn : ByteArray) (xa xp : Int) (h1 : xa = 0) : Calls Tryd.prog 31 #[cfgV c r, encPR ⟨xn, true, xa, xp⟩] w fun e w' => e = .returned (.bool (xp == 0)) ∧ Keeps [] w w' := by
  unfold cfgV encPR
  go_enter Tryd.func31, Tryd.ntmps31
  go_wp2_with fail
  go_ret
  exact ⟨rfl, (Keeps.alloc [] w _).alloc' _⟩
set_option maxRecDepth 100000 in
set_option maxHeartbeats 2000000 in
theorem leads_d1 (w : World) (c : PC) (r : PCR) (xn : ByteArray) (xa xp : Int) (h1 : ¬ xa = 0) : Calls Tryd.prog 31 #[cfgV c r, encPR ⟨xn, true, xa, xp⟩] w fun e w' => e = .returned (.bool false) ∧ Keeps [] w w' := by
  unfold cfgV encPR
  go_enter Tryd.func31, Tryd.ntmps31
  go_wp2_with fail
  go_ret
  exact ⟨rfl, (Keeps.alloc [] w _).alloc' _⟩
set_option maxRecDepth 100000 in
set_option maxHeartbeats 2000000 in
theorem leads_a (w : World) (c : PC) (r : PCR) (xn : ByteArray) (xa xp : Int) (h1 : xa = 0) : Calls Tryd.prog 31 #[cfgV c r, encPR ⟨xn, false, xa, xp⟩] w fun e w' => e = .returned (.bool false) ∧ Keeps [] w w' := by
  unfold cfgV encPR
  go_enter Tryd.func31, Tryd.ntmps31
  go_wp2_with fail
  go_ret
  exact ⟨rfl, (Keeps.alloc [] w _).alloc' _⟩
set_option maxRecDepth 100000 in
set_option maxHeartbeats 2000000 in
theorem leads_p (w : World) (c : PC) (r : PCR) (xn : ByteArray) (xa xp : Int) (h1 : ¬ xa = 0) (h2 : xp = 0) : Calls Tryd.prog 31 #[cfgV c r, encPR ⟨xn, false, xa, xp⟩] w fun e w' => e = .returned (.bool false) ∧ Keeps [] w w' := by
  unfold cfgV encPR
  go_enter Tryd.func31, Tryd.ntmps31
  go_wp2_with fail
  go_ret
  exact ⟨rfl, (Keeps.alloc [] w _).alloc' _⟩
set_option maxRecDepth 100000 in
set_option maxHeartbeats 2000000 in
theorem leads_o (w : World) (c : PC) (r : PCR) (xn : ByteArray) (xa xp : Int) (h1 : ¬ xa = 0) (h2 : ¬ xp = 0) (h3 : xa = c.outer) : Calls Tryd.prog 31 #[cfgV c r, encPR ⟨xn, false, xa, xp⟩] w fun e w' => e = .returned (.bool false) ∧ Keeps [] w w' := by
  unfold cfgV encPR
  go_enter Tryd.func31, Tryd.ntmps31
  go_wp2_with fail
  go_ret
  exact ⟨rfl, (Keeps.alloc [] w _).alloc' _⟩
set_option maxRecDepth 100000 in
set_option maxHeartbeats 2000000 in
theorem leads_in (w : World) (c : PC) (r : PCR) (xn : ByteArray) (xa xp : Int) (h1 : ¬ xa = 0) (h2 : ¬ xp = 0) (h3 : ¬ xa = c.outer) : Calls Tryd.prog 31 #[cfgV c r, encPR ⟨xn, false, xa, xp⟩] w fun e w' => e = .returned (.bool (!insideOf c xa)) ∧ Keeps [] w w' := by
  have HI := Lib.hid (fun (w : World) => inside_any w c r xa)
  unfold cfgV at HI
  obtain ⟨q, hq⟩ : ∃ q, insideOf c xa = q := ⟨_, rfl⟩
  rw [hq] at HI ⊢
  clear hq
  unfold cfgV encPR
  go_enter Tryd.func31, Tryd.ntmps31
  have hrb := rangeAt_keeps (Keeps.alloc [] _ (.cells #[.string xn, .bool false, .int .u32 xa, .int .u16 xp] 35)) (range_box w [.int .u32 c.inside, .int .u32 c.mask, .int .u32 c.outer, .int .u16 r.lo, .int .u16 r.hi, .int .u64 r.qu, .int .i64 r.fl, .slice r.wa r.wn r.wc, .int .i64 r.sn, .int .u16 r.ms, .int .i64 r.sc, .bool r.sk, .int .u64 r.ky, .slice r.ra r.rn r.rc, .slice r.fa r.fn r.fc, .int .u64 r.rt, .int .i64 r.tr, .int .u64 r.dl, .int .u64 r.wt] 29) (by simp)
  have HRB := Lib.hid hrb
  clear hrb
  go_wp2_with (refine wpList_load_want 29 (.tmp 2) rfl (by simp [Region.wanted, yielded, h1, h2, h3]) w.heap.size 0 rfl _ _ HRB.out Tryd.underlying29 rfl (by kernel_rfl) ?_)
  refine (HI.out _).mono ?_
  rintro e w1 ⟨rfl, k1⟩
  have K1 := Lib.hid (((Keeps.alloc [] w _).alloc' _).trans k1)
  clear k1
  go_wp2_with fail
  go_ret
  exact ⟨by simp [h1, h2, h3], K1.out⟩
theorem leads_any (w : World) (c : PC) (r : PCR) (x : PR) : Calls Tryd.prog 31 #[cfgV c r, encPR x] w fun e w' => e = .returned (.bool (leadsOk c x)) ∧ Keeps [] w w' := by
  obtain ⟨xn, xd, xa, xp⟩ := x
  cases xd with
  | true =>
    by_cases h1 : xa = 0
    · have e : leadsOk c ⟨xn, true, xa, xp⟩ = (xp == 0) := by simp [leadsOk, h1]
      rw [e]; exact leads_d0 w c r xn xa xp h1
    · have e : leadsOk c ⟨xn, true, xa, xp⟩ = false := by simp [leadsOk, h1]
      rw [e]; exact leads_d1 w c r xn xa xp h1
  | false =>
    by_cases h1 : xa = 0
    · have e : leadsOk c ⟨xn, false, xa, xp⟩ = false := by simp [leadsOk, h1]
      rw [e]; exact leads_a w c r xn xa xp h1
    · by_cases h2 : xp = 0
      · have e : leadsOk c ⟨xn, false, xa, xp⟩ = false := by simp [leadsOk, h2]
        rw [e]; exact leads_p w c r xn xa xp h1 h2
      · by_cases h3 : xa = c.outer
        · have e : leadsOk c ⟨xn, false, xa, xp⟩ = false := by simp [leadsOk, h3]
          rw [e]; exact leads_o w c r xn xa xp h1 h2 h3
        · have e : leadsOk c ⟨xn, false, xa, xp⟩ = !insideOf c xa := by simp [leadsOk, h1, h2, h3]
          rw [e]; exact leads_in w c r xn xa xp h1 h2 h3
end Go.Proofs.YtbmkdnkiojapbaaDoor
