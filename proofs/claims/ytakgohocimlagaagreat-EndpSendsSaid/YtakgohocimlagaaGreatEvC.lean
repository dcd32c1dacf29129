/-
  An evaluator over plain data (3): operations that touch no memory: compiled form, evaluation, and that the model's run gives what the evaluation gives. Of no program. No condition.
-/
import Derived.Test.YtakgohocimlagaaGreatEvB
namespace Go.Proofs.YtakgohocimlagaaGreat
namespace Ev
variable [E : Inhabited EnvT]
set_option linter.unusedVariables false
set_option linter.unusedSectionVars false
set_option linter.unusedSimpArgs false

/-! ### the tables' answers, at the run -/
section
variable {P : Program} {w : World} {t : TypeId}
theorem r_und {d : TypeDesc} (h : P.underlying t = some d) : (underlying t).run P w = .ok d w := by unfold underlying; simp [h]
theorem r_info {i : TypeInfo} (h : P.info? t = some i) : (typeInfo t).run P w = .ok i w := by
  unfold typeInfo; simp only [Sem.run_bind, run_program, Result.andThen_ok, h]; simp
theorem r_size {i : TypeInfo} (h : P.info? t = some i) : (sizeOf t).run P w = .ok i.size w := by
  unfold sizeOf; simp only [Sem.run_bind, r_info h, Result.andThen_ok, Sem.run_pure]
theorem r_zero {i : TypeInfo} {z : Value} (h : P.info? t = some i) (hz : i.zero = some z) : (zeroValue t).run P w = .ok z w := by
  unfold zeroValue; simp only [Sem.run_bind, r_info h, Result.andThen_ok, hz, Sem.run_pure]
def isAggD : TypeDesc → Bool
  | .struct _ | .array _ _ => true
  | _ => false
theorem r_agg {d : TypeDesc} (h : P.underlying t = some d) : (isAgg t).run P w = .ok (isAggD d) w := by
  unfold isAgg; simp only [Sem.run_bind, r_und h, Result.andThen_ok]; cases d <;> rfl
end

/-! ### temporaries: those of the region at hand in a list, the others in a trie -/
structure TM where
  b : T AV
  l : List (Nat × AV)
namespace TM
def e : TM := ⟨.e, []⟩
def lk : List (Nat × AV) → Nat → Option AV
  | [], _ => none
  | (k, v) :: r, t => match Nat.beq k t with
    | true => some v
    | false => lk r t
def get (m : TM) (t : Nat) : Option AV := match lk m.l t with
  | some v => some v
  | none => m.b.get t
def set (m : TM) (t : Nat) (v : AV) : TM := ⟨m.b, (t, v) :: m.l⟩
theorem get_set (m : TM) (t i : Nat) (v : AV) : (m.set t v).get i = if i = t then some v else m.get i := by
  simp only [get, set, lk]
  cases h : Nat.beq t i with
  | true => have := Nat.eq_of_beq_eq_true h; subst this; simp
  | false => have : ¬ i = t := fun e => Nat.ne_of_beq_eq_false h e.symm; simp [this]
theorem get_e (t : Nat) : e.get t = none := rfl
def seq {β : Type} (m : TM) (K : TM → β) : β := match m with
  | ⟨b, l⟩ => match l with
    | [] => K ⟨b, []⟩
    | x :: r => K ⟨b, x :: r⟩
@[simp] theorem seq_eq {β : Type} (m : TM) (K : TM → β) : seq m K = K m := by
  obtain ⟨b, l⟩ := m
  cases l <;> rfl
/-- at a region's end: what lives on (the mask says which) goes into the trie, the rest is dropped -/
def flushL (mask : Nat) : List (Nat × AV) → T AV → T AV
  | [], b => b
  | (k, v) :: r, b => match Nat.testBit mask k with
    | true => T.seq (flushL mask r b) fun b => b.set k v
    | false => flushL mask r b
def flush (m : TM) (mask : Nat) : TM := ⟨flushL mask m.l m.b, []⟩
theorem flushL_get {mask : Nat} {b : T AV} : ∀ (l : List (Nat × AV)) (t : Nat), (flushL mask l b).get t = if Nat.testBit mask t = true then (match lk l t with | some v => some v | none => b.get t) else b.get t
  | [], t => by simp [flushL, lk]
  | (k, v) :: r, t => by
    have ih := flushL_get (mask := mask) (b := b) r t
    simp only [flushL, lk]
    by_cases hk : k = t
    · subst hk
      have hb : Nat.beq k k = true := Nat.beq_refl k
      rw [hb]
      cases hm : Nat.testBit mask k with
      | true => simp only [T.seq_eq]; rw [T.get_set]; simp
      | false => simp only []; rw [ih, hm]; simp
    · have hb : Nat.beq k t = false := by
        cases h : Nat.beq k t with
        | false => rfl
        | true => exact absurd (Nat.eq_of_beq_eq_true h) hk
      rw [hb]
      cases hm : Nat.testBit mask k with
      | true => simp only [T.seq_eq]; rw [T.get_set, if_neg (fun e => hk e.symm)]; exact ih
      | false => exact ih
/-- the trie holds none but those of the mask -/
def Ok (mask : Nat) (m : TM) : Prop := ∀ t v, m.b.get t = some v → Nat.testBit mask t = true
theorem Ok.of_b {mask : Nat} {m m' : TM} (h : Ok mask m) (hb : m'.b = m.b) : Ok mask m' := fun t v hv => h t v (by rw [← hb]; exact hv)
theorem flush_get {mask : Nat} {m : TM} (h : Ok mask m) {t : Nat} {v : AV} (hv : (m.flush mask).get t = some v) : m.get t = some v := by
  simp only [flush, get, lk] at hv ⊢
  rw [flushL_get] at hv
  split at hv
  · exact hv
  · rename_i hn; exact absurd (h t v hv) hn
theorem flush_ok {mask : Nat} {m : TM} (h : Ok mask m) : Ok mask (m.flush mask) := fun t v hv => by
  simp only [flush] at hv
  rw [flushL_get] at hv
  split at hv
  · assumption
  · exact h t v hv
end TM

/-! ### operands -/
inductive CA where
  | t (n : Nat)
  | k (v : AV)
  | g (id : Nat)

def ofLeaf : Value → Option AV
  | .bool b => some (.bool b)
  | .int k n => some (.int k n)
  | .string s => some (.str (s.data.toList.map UInt8.toNat))
  | .pointer none => some .nilp
  | .slice none 0 0 => some .nils
  | .map none => some .nilm
  | .nilFunc => some .nilf
  | .nilIface => some .nili
  | _ => none
def ofLeafs : List Value → Option (List AV)
  | [] => some []
  | v :: r => match ofLeaf v, ofLeafs r with
    | some a, some l => some (a :: l)
    | _, _ => none
def ofConst : Value → Option AV
  | .agg cs => (ofLeafs cs.toList).map .agg
  | .tuple cs => if cs.size = 0 then some (.tup []) else none
  | v => ofLeaf v
theorem bs_of (s : ByteArray) : bs (s.data.toList.map UInt8.toNat) = s := by
  apply ByteArray.ext
  apply Array.toList_inj.1
  simp [bs, Function.comp_def]
theorem R_ofLeaf {ρ : Mp} {v : Value} {a : AV} (h : ofLeaf v = some a) : R ρ a v := by
  unfold ofLeaf at h
  split at h <;> first
    | (cases h; constructor; done)
    | (cases h; rename_i s; have := R.str (ρ := ρ) (s.data.toList.map UInt8.toNat); rw [bs_of] at this; exact this)
    | cases h
theorem Rs_ofLeafs {ρ : Mp} : ∀ {l : List Value} {a : List AV}, ofLeafs l = some a → Rs ρ a l
  | [], _, h => by cases h; exact .nil
  | v :: r, a, h => by
    simp only [ofLeafs] at h
    split at h
    · rename_i x y hx hy; cases h; exact .cons (R_ofLeaf hx) (Rs_ofLeafs hy)
    · cases h
theorem R_ofConst {ρ : Mp} {v : Value} {a : AV} (h : ofConst v = some a) : R ρ a v := by
  cases v with
  | agg cs =>
    simp only [ofConst, Option.map_eq_some_iff] at h
    obtain ⟨l, hl, rfl⟩ := h
    have := R.agg (Rs_ofLeafs (ρ := ρ) hl)
    simpa using this
  | tuple cs =>
    simp only [ofConst] at h
    split at h
    · rename_i h0; cases h
      obtain rfl : cs = #[] := by simpa using h0
      exact .tup .nil
    · cases h
  | _ => exact R_ofLeaf (by simpa only [ofConst] using h)

def compA (G : Nat → Option Nat) : Operand → Option CA
  | .tmp t => some (.t t)
  | .const v => (ofConst v).map .k
  | .func f => some (.k (.fn f [] []))
  | .global g => (G g).map .g
def compAs (G : Nat → Option Nat) : List Operand → Option (List CA)
  | [] => some []
  | x :: r => match compA G x, compAs G r with
    | some a, some l => some (a :: l)
    | _, _ => none
def getA (tm : TM) : CA → Option AV
  | .t n => tm.get n
  | .k v => some v
  | .g id => some (.ptr id 0)
def getAs (tm : TM) : List CA → Option (List AV)
  | [] => some []
  | x :: r => match getA tm x with
    | some a => match getAs tm r with
      | some l => some (a :: l)
      | none => none
    | none => none
def GOk (G : Nat → Option Nat) (ρ : Mp) : Prop := ∀ g id, G g = some id → ∃ e, ρ id = some e ∧ e.blk = g ∧ e.dl = 0
theorem GOk.ext {G : Nat → Option Nat} {ρ ρ' : Mp} (h : GOk G ρ) (hE : Ext ρ ρ') : GOk G ρ' := fun g id hg => by
  obtain ⟨e, he, h1, h2⟩ := h g id hg; exact ⟨e, hE _ _ he, h1, h2⟩
structure RT (ρ : Mp) (nt : Nat) (tm : TM) (a : Act) : Prop where
  size : a.tmps.size = nt
  val : ∀ t v, tm.get t = some v → t < nt ∧ R ρ v (a.tmps.getD t undef)
theorem RT.ext {ρ ρ' : Mp} {nt : Nat} {tm : TM} {a : Act} (h : RT ρ nt tm a) (hE : Ext ρ ρ') : RT ρ' nt tm a :=
  ⟨h.size, fun t v hv => ⟨(h.val t v hv).1, (h.val t v hv).2.ext hE⟩⟩
theorem getA_ok {G : Nat → Option Nat} {ρ : Mp} {nt : Nat} {tm : TM} {a : Act} (hG : GOk G ρ) (hT : RT ρ nt tm a) {x : Operand} {c : CA} {v : AV}
    (hc : compA G x = some c) (hv : getA tm c = some v) : R ρ v (a.eval x) := by
  cases x with
  | tmp t => simp only [compA] at hc; cases hc; exact (hT.val t v hv).2
  | const u =>
    simp only [compA, Option.map_eq_some_iff] at hc
    obtain ⟨y, hy, rfl⟩ := hc
    simp only [getA] at hv; cases hv; exact R_ofConst hy
  | global g =>
    simp only [compA, Option.map_eq_some_iff] at hc
    obtain ⟨id, hid, rfl⟩ := hc
    simp only [getA] at hv; cases hv
    obtain ⟨e, he, h1, h2⟩ := hG g id hid
    have := R.ptr (off := 0) he
    rw [h1, h2] at this; exact this
  | func f => simp only [compA] at hc; cases hc; simp only [getA] at hv; cases hv; exact .fn f .nil .nil
theorem getAs_ok {G : Nat → Option Nat} {ρ : Mp} {nt : Nat} {tm : TM} {a : Act} (hG : GOk G ρ) (hT : RT ρ nt tm a) : ∀ {xs : List Operand} {cs : List CA} {vs : List AV},
    compAs G xs = some cs → getAs tm cs = some vs → Rs ρ vs (xs.map a.eval)
  | [], _, _, hc, hv => by simp only [compAs] at hc; cases hc; simp only [getAs] at hv; cases hv; exact .nil
  | x :: r, cs, vs, hc, hv => by
    simp only [compAs] at hc
    split at hc
    · rename_i a l ha hl
      cases hc
      simp only [getAs] at hv
      split at hv
      · rename_i y hy
        split at hv
        · rename_i z hz; cases hv; exact .cons (getA_ok hG hT ha hy) (getAs_ok hG hT hl hz)
        · cases hv
      · cases hv
    · cases hc

/-! ### the operations' kinds -/
/-- a scalar's class -/
inductive SC where
  | i
  | s
  | b

inductive EC where
  | num
  | flat (l : List SC)
  | bool
  | ptr
  | slice
  | map
  | func
  | iface

inductive PK where
  | mv
  | nilck
  | bin (op : BinOp) (c : EC)
  | neg
  | not
  | xor
  | conv (k : IntKind)
  | convS
  | mkI (t : TypeId)
  | mkF (f : FuncId) (n : Nat)
  | slS (lo hi : Bool)
  | slL (z : Nat) (lo hi : Bool)
  | slA (n z : Nat) (lo hi : Bool)
  | slM (z : Nat) (lo : Bool)
  | fa (off : Nat)
  | fld (off sz : Nat) (agg : Bool)
  | iaS (z : Nat)
  | iaA (n z : Nat)
  | ixS
  | ixA (n z : Nat) (agg : Bool)
  | ext (i : Nat)
  | lenS
  | lenL
  | lenA (n : Nat)
  | cap
  | min
  | max
  | build (zero : List AV) (places : List (Nat × Nat))

def eqB (op : BinOp) (b : Bool) : Option (AV × Bool) := match op with
  | .eql => some (.bool b, true)
  | .neq => some (.bool (!b), true)
  | _ => none

def binI (sy : Bool) (op : BinOp) (k : IntKind) (a b : Int) : Option (AV × Bool) := match op with
  | .add => some (.int k (wr sy k (a + b)), true)
  | .sub => some (.int k (wr sy k (a - b)), true)
  | .mul => some (.int k (wr sy k (a * b)), true)
  | .quo => some (.int k (wr sy k (a.tdiv b)), !(b == 0))
  | .rem => some (.int k (a.tmod b), !(b == 0))
  | .and => some (.int k (wr sy k (.ofNat (Nat.land (umod a (two k)) (umod b (two k))))), true)
  | .or => some (.int k (wr sy k (.ofNat (Nat.lor (umod a (two k)) (umod b (two k))))), true)
  | .xor => some (.int k (wr sy k (.ofNat (Nat.xor (umod a (two k)) (umod b (two k))))), true)
  | .andNot => some (.int k (wr sy k (.ofNat (Nat.land (umod a (two k)) (two k - 1 - umod b (two k))))), true)
  | .eql => some (.bool (a == b), true)
  | .neq => some (.bool (a != b), true)
  | .lss => some (.bool (decide (a < b)), true)
  | .leq => some (.bool (decide (a ≤ b)), true)
  | .gtr => some (.bool (decide (a > b)), true)
  | .geq => some (.bool (decide (a ≥ b)), true)
  | _ => none
def binS (op : BinOp) (a b : List Nat) : Option (AV × Bool) := match op with
  | .add => some (.str (a ++ b), decide (a.length + b.length ≤ 9223372036854775807))
  | .eql => some (.bool (beqL a b), true)
  | .neq => some (.bool (!beqL a b), true)
  | .lss => some (.bool (ltL a b), true)
  | .leq => some (.bool (ltL a b || beqL a b), true)
  | .gtr => some (.bool (!(ltL a b || beqL a b)), true)
  | .geq => some (.bool (!ltL a b), true)
  | _ => none
/-! ### letters -/
def asS : AV → Option (IntKind × Sx)
  | .int k n => some (k, .c n)
  | .sx k e => some (k, e)
  | _ => none
def ofS (k : IntKind) (e : Sx) : AV := match e with
  | .c z => .int k z
  | e => .sx k e
def mkS (k : IntKind) (e : Sx) : AV := ofS k (findV e E.default.ft)
theorem asS_R {ρ : Mp} {x : AV} {X : Value} {k : IntKind} {e : Sx} (h : asS x = some (k, e)) (hx : R ρ x X) : X = .int k (e.den E.default.i) := by
  cases x <;> simp only [asS, Option.some.injEq, Prod.mk.injEq, reduceCtorEq] at h
  · obtain ⟨rfl, rfl⟩ := h; cases hx; rfl
  · obtain ⟨rfl, rfl⟩ := h; cases hx; rfl
theorem ofS_R (ρ : Mp) (k : IntKind) (e : Sx) : R ρ (ofS k e) (.int k (e.den E.default.i)) := by
  cases e <;> first | exact .int _ _ | exact .sx _ _
theorem mkS_R (ρ : Mp) (k : IntKind) (e : Sx) : R ρ (mkS k e) (.int k (e.den E.default.i)) := by
  have := ofS_R ρ k (findV e E.default.ft)
  rw [findV_ok E.default.ok] at this
  exact this
def binSx (op : BinOp) (k k' : IntKind) (a b : Sx) : Option (AV × Bool) := match op with
  | .shl | .shr => match cmpS .lss b (.c 0) with
    | some false => some (mkS k (.o op k a b), true)
    | _ => none
  | .add | .sub | .mul | .and | .or | .xor | .andNot => match Nat.beq (kin k) (kin k') with
    | true => some (mkS k (.o op k a b), true)
    | false => none
  | .quo | .rem => match b with
    | .c z => match Nat.beq (kin k) (kin k') with
      | true => some (mkS k (.o op k a b), !(z == 0))
      | false => none
    | _ => none
  | op => match Nat.beq (kin k) (kin k') with
    | true => match cmpS op a b with
      | some z => some (.bool z, true)
      | none => none
    | false => none
def binX (op : BinOp) (x y : AV) : Option (AV × Bool) := match asS x, asS y with
  | some (k, a), some (k', b) => binSx op k k' a b
  | _, _ => none
def minX (k : IntKind) (a : Sx) : List AV → Option Sx
  | [] => some a
  | x :: r => match asS x with
    | some (_, b) => match cmpS .lss b a with
      | some true => minX k b r
      | some false => minX k a r
      | none => minX k (.mn a b) r
    | none => none
def maxX (k : IntKind) (a : Sx) : List AV → Option Sx
  | [] => some a
  | x :: r => match asS x with
    | some (_, b) => match cmpS .gtr b a with
      | some true => maxX k b r
      | some false => maxX k a r
      | none => maxX k (.mx a b) r
    | none => none
/-- structs and arrays of scalars, cell for cell -/
def eq1 (c : SC) (x y : AV) : Option Bool := match c, x, y with
  | .i, .int k a, .int k' b => if k = k' then some (a == b) else none
  | .s, .str a, .str b => some (beqL a b)
  | .b, .bool a, .bool b => some (a == b)
  | .i, x, y => match asS x, asS y with
    | some (k, a), some (k', b) => match Nat.beq (kin k) (kin k') with
      | true => cmpS .eql a b
      | false => none
    | _, _ => none
  | _, _, _ => none
def eqC : List SC → List AV → List AV → Option Bool
  | [], [], [] => some true
  | c :: cs, x :: r, y :: r' => match eq1 c x y with
    | some true => eqC cs r r'
    | some false => some false
    | none => none
  | _, _, _ => none
def binK (sy : Bool) (op : BinOp) (c : EC) (x y : AV) : Option (AV × Bool) := match x, y with
  | .int k a, .int k' b => match op with
    | .shl => some (.int k (wr sy k (a * p2 (Nat.min b.toNat k.bits))), decide (0 ≤ b))
    | .shr => some (.int k (a.fdiv (p2 (Nat.min b.toNat k.bits))), decide (0 ≤ b))
    | _ => if k = k' then binI sy op k a b else none
  | .str a, .str b => binS op a b
  | .bool a, .bool b => match c with
    | .bool => eqB op (a == b)
    | _ => none
  | .nilp, .nilp => match c with
    | .ptr => eqB op true
    | _ => none
  | .nilp, .ptr .. | .ptr .., .nilp => match c with
    | .ptr => eqB op false
    | _ => none
  | .ptr i o, .ptr i' o' => match c with
    | .ptr => if i = i' then eqB op (o == o') else none
    | _ => none
  | .nils, .nils => match c with
    | .slice => eqB op true
    | _ => none
  | .nils, .sl .. | .sl .., .nils => match c with
    | .slice => eqB op false
    | _ => none
  | .nilm, .nilm => match c with
    | .map => eqB op true
    | _ => none
  | .nilm, .map .. | .map .., .nilm => match c with
    | .map => eqB op false
    | _ => none
  | .nilf, .nilf => match c with
    | .func => eqB op true
    | _ => none
  | .nilf, .fn .. | .fn .., .nilf => match c with
    | .func => eqB op false
    | _ => none
  | .nili, .nili => match c with
    | .iface => eqB op true
    | _ => none
  | .nili, .iface .. | .iface .., .nili => match c with
    | .iface => eqB op false
    | _ => none
  | .agg xs, .agg ys => match c with
    | .flat l => match eqC l xs ys with
      | some b => eqB op b
      | none => none
    | _ => none
  | x, y => binX op x y

/-- a slice expression's ends: low, high within (length, greatest) -/
def ends (lo hi : Bool) (len most : Nat) (r : List AV) : Option (Nat × Nat × Bool) := match lo, hi, r with
  | false, false, [] => some (0, len, true)
  | true, false, [.int _ l] => some (l.toNat, len, decide (0 ≤ l) && decide (l ≤ (len : Int)))
  | false, true, [.int _ h] => some (0, h.toNat, decide (0 ≤ h) && decide (h ≤ (most : Int)))
  | true, true, [.int _ l, .int _ h] => some (l.toNat, h.toNat, decide (0 ≤ h) && decide (h ≤ (most : Int)) && decide (0 ≤ l) && decide (l ≤ (h.toNat : Int)))
  | _, _, _ => none

/-- a slice expression's ends, with its greatest -/
def ends3 (lo : Bool) (most : Nat) (r : List AV) : Option (Nat × Nat × Nat × Bool) := match lo, r with
  | false, [.int _ h, .int _ m] => some (0, h.toNat, m.toNat, decide (0 ≤ m) && decide (m ≤ (most : Int)) && decide (0 ≤ h) && decide (h ≤ (m.toNat : Int)))
  | true, [.int _ l, .int _ h, .int _ m] => some (l.toNat, h.toNat, m.toNat, decide (0 ≤ m) && decide (m ≤ (most : Int)) && decide (0 ≤ h) && decide (h ≤ (m.toNat : Int)) && decide (0 ≤ l) && decide (l ≤ (h.toNat : Int)))
  | _, _ => none

def minL (k : IntKind) (a : Int) : List AV → Option AV
  | [] => some (.int k a)
  | .int _ b :: r => minL k (if b < a then b else a) r
  | _ => none
def maxL (k : IntKind) (a : Int) : List AV → Option AV
  | [] => some (.int k a)
  | .int _ b :: r => maxL k (if b > a then b else a) r
  | _ => none

def minA (vs : List AV) : Option AV := match vs with
  | .int k a :: r => match minL k a r with
    | some v => some v
    | none => (minX k (.c a) r).map (ofS k)
  | .sx k a :: r => (minX k a r).map (ofS k)
  | _ => none
def maxA (vs : List AV) : Option AV := match vs with
  | .int k a :: r => match maxL k a r with
    | some v => some v
    | none => (maxX k (.c a) r).map (ofS k)
  | .sx k a :: r => (maxX k a r).map (ofS k)
  | _ => none
def cellsA : AV → List AV
  | .agg cs => cs
  | v => [v]
/-- cells laid over cells from a place on -/
def overL : List AV → Nat → List AV → List AV
  | cs, _, [] => cs
  | cs, i, v :: r => overL (cs.set i v) (i + 1) r
def fillL : List AV → List (Nat × Nat) → List AV → Option (List AV)
  | cs, [], [] => some cs
  | cs, (off, sz) :: ps, v :: vs => match Nat.beq (cellsA v).length sz && Nat.ble (off + sz) cs.length with
    | true => fillL (overL cs off (cellsA v)) ps vs
    | false => none
  | _, _, _ => none

def execK (sy : Bool) (k : PK) (vs : List AV) : Option (AV × Bool) := match k, vs with
  | .mv, [x] => some (x, true)
  | .nilck, [x] => match x with
    | .ptr .. => some (x, true)
    | .fn .. => some (x, true)
    | .yield .. => some (x, true)
    | _ => none
  | .bin op c, [x, y] => binK sy op c x y
  | .neg, [.int k n] => some (.int k (wr sy k (0 - n)), true)
  | .neg, [.sx k e] => some (mkS k (.o .sub k (.c 0) e), true)
  | .xor, [.int k n] => some (.int k (wr sy k (.ofNat (Nat.xor (umod (if k.signed then -1 else k.max) (two k)) (umod n (two k))))), true)
  | .xor, [.sx k e] => some (mkS k (.o .xor k (.c (if k.signed then -1 else k.max)) e), true)
  | .not, [.bool b] => some (.bool (!b), true)
  | .conv k, [.int _ n] => some (.int k (wr sy k n), true)
  | .conv k, [.sx _ e] => some (mkS k (.w k e), true)
  | .convS, [.str s] => some (.str s, true)
  | .mkI t, [x] => some (.iface t x, true)
  | .mkF f n, vs => some (.fn f (vs.take n) (vs.drop n), true)
  | .slS lo hi, .str s :: r => match ends lo hi s.length s.length r with
    | some (l, h, q) => some (.str ((s.take h).drop l), q)
    | none => none
  | .slL z lo hi, .sl id off len cap :: r => match cap with
    | .fix c => match ends lo hi len c r with
      | some (l, h, q) => some (.sl id (if c = l then off else off + l * z) (h - l) (.fix (c - l)), q)
      | none => none
    | .rest z' => match ends lo hi len len r with
      | some (l, h, q) => some (.sl id (off + l * z) (h - l) (.rest z'), q && Nat.beq z z' && Nat.blt 0 z)
      | none => none
  | .slL z lo hi, .nils :: r => match ends lo hi 0 0 r with
    | some (l, h, q) => some (.nils, q)
    | none => none
  | .slM z lo, .sl id off len cap :: r => match cap with
    | .fix c => match ends3 lo c r with
      | some (l, h, m, q) => some (.sl id (if m = l then off else off + l * z) (h - l) (.fix (m - l)), q)
      | none => none
    | .rest z' => match ends3 lo len r with
      | some (l, h, m, q) => match Nat.beq m l with
        | true => some (.sl id off 0 (.rest z'), q)
        | false => some (.sl id (off + l * z) (h - l) (.fix (m - l)), q)
      | none => none
  | .slM z lo, .nils :: r => match ends3 lo 0 r with
    | some (l, h, m, q) => some (.nils, q)
    | none => none
  | .slA n z lo hi, .ptr id off :: r => match ends lo hi n n r with
    | some (l, h, q) => some (.sl id (if n = l then off else off + l * z) (h - l) (.fix (n - l)), q)
    | none => none
  | .fa o, [.ptr id off] => some (.ptr id (off + o), true)
  | .fld off sz agg, [.agg cs] => match agg with
    | true => some (.agg ((cs.drop off).take sz), true)
    | false => match cs[off]? with
      | some v => some (v, true)
      | none => none
  | .iaS z, [.sl id off len _, .int _ i] => some (.ptr id (off + i.toNat * z), decide (0 ≤ i) && decide (i < (len : Int)))
  | .iaA n z, [.ptr id off, .int _ i] => some (.ptr id (off + i.toNat * z), decide (0 ≤ i) && decide (i < (n : Int)))
  | .ixS, [.str s, .int _ i] => match s[i.toNat]? with
    | some b => some (.int .u8 (.ofNat (b % 256)), decide (0 ≤ i))
    | none => none
  | .ixA n z agg, [.agg cs, .int _ i] => match agg with
    | true => some (.agg ((cs.drop (i.toNat * z)).take z), decide (0 ≤ i) && decide (i < (n : Int)))
    | false => match cs[i.toNat * z]? with
      | some v => some (v, decide (0 ≤ i) && decide (i < (n : Int)))
      | none => none
  | .ext i, [.tup vs] => match vs[i]? with
    | some v => some (v, true)
    | none => none
  | .lenS, [.str s] => some (.int .i64 (.ofNat s.length), true)
  | .lenL, [.sl _ _ len _] => some (.int .i64 (.ofNat len), true)
  | .lenL, [.nils] => some (.int .i64 (.ofNat 0), true)
  | .lenA n, [_] => some (.int .i64 (.ofNat n), true)
  | .cap, [.sl _ _ _ (.fix c)] => some (.int .i64 (.ofNat c), true)
  | .cap, [.nils] => some (.int .i64 (.ofNat 0), true)
  | .min, vs => (minA vs).map fun v => (v, true)
  | .max, vs => (maxA vs).map fun v => (v, true)
  | .build zero places, vs => (fillL zero places vs).map fun cs => (.agg cs, true)
  | _, _ => none

/-! ### compiled out of the model's operations -/
def isConstO : Operand → Bool
  | .const _ => true
  | _ => false
def scOf : TypeDesc → Option SC
  | .int _ => some .i
  | .string => some .s
  | .bool => some .b
  | _ => none
def flatL (P : Program) : Nat → List Field → Option (List SC)
  | _, [] => some []
  | i, f :: r => match P.underlying f.type with
    | some d => match scOf d, flatL P (i + 1) r with
      | some c, some l => if f.name = "_" ∨ f.offset ≠ i then none else some (c :: l)
      | _, _ => none
    | none => none
def clsS (P : Program) (t : TypeId) (fs : Array Field) : Option EC := if P.stoodInHeld t || P.eqGuardType P.depth t then none else (flatL P 0 fs.toList).map .flat
def clsA (P : Program) (t : TypeId) (n : Nat) (e : TypeId) : Option EC := match P.info? e, P.underlying e with
  | some i, some d => if i.size ≠ 1 ∨ P.eqGuardType P.depth t then none else (scOf d).map fun c => .flat (List.replicate n c)
  | _, _ => none
theorem clsS_flat {P : Program} {t : TypeId} {fs : Array Field} {c : EC} (h : clsS P t fs = some c) : ∃ l, c = .flat l := by
  unfold clsS at h
  split at h
  · cases h
  · cases hf : flatL P 0 fs.toList with
    | none => rw [hf] at h; cases h
    | some l => rw [hf] at h; cases h; exact ⟨_, rfl⟩
theorem clsA_flat {P : Program} {t e : TypeId} {n : Nat} {c : EC} (h : clsA P t n e = some c) : ∃ l, c = .flat l := by
  unfold clsA at h
  split at h
  · split at h
    · cases h
    · rename_i d _ _ _
      cases hf : scOf d with
      | none => rw [hf] at h; cases h
      | some l => rw [hf] at h; cases h; exact ⟨_, rfl⟩
  · cases h
def clsOf (P : Program) (t : TypeId) (x y : Operand) : Option EC := match P.underlying t with
  | some (.int _) => some .num
  | some .string => some .num
  | some .bool => some .bool
  | some (.pointer e) => match P.info? e with
    | some i => if i.size = 0 then none else some .ptr
    | none => none
  | some (.slice _) => some .slice
  | some (.map _ _) => some .map
  | some (.func _ _ _) => some .func
  | some (.interface _) => if isConstO x || isConstO y then some .iface else none
  | some (.struct fs) => clsS P t fs
  | some (.array n e) => clsA P t n e
  | _ => none
def allPlaces (P : Program) : List Field → Option (List (Nat × Nat))
  | [] => some []
  | f :: r => match P.info? f.type, allPlaces P r with
    | some g, some l => some ((f.offset, g.size) :: l)
    | _, _ => none
def pickL (ps : List (Nat × Nat)) : List Nat → Option (List (Nat × Nat))
  | [] => some []
  | i :: r => match ps[i]?, pickL ps r with
    | some p, some l => some (p :: l)
    | _, _ => none
def placesA (sz : Nat) : List Nat → List (Nat × Nat)
  | [] => []
  | i :: r => (i * sz, sz) :: placesA sz r
def zeroOf (P : Program) (t : TypeId) : Option (List AV) := match P.info? t with
  | some i => match i.zero with
    | some z => ofLeafs z.cells.toList
    | none => none
  | none => none
def compB (P : Program) (b : Builtin) (ts : Array TypeId) (xs : List Operand) : Option (PK × List Operand) := match b with
  | .len => match ts[0]? with
    | some t => match P.underlying t with
      | some .string => some (.lenS, xs)
      | some (.slice _) => some (.lenL, xs)
      | some (.array n _) => some (.lenA n, xs)
      | _ => none
    | none => none
  | .cap => match ts[0]? with
    | some t => match P.underlying t with
      | some (.slice _) => some (.cap, xs)
      | _ => none
    | none => none
  | .min => some (.min, xs)
  | .max => some (.max, xs)
  | _ => none
def compP (P : Program) : Op → Option (PK × List Operand)
  | .move x | .assign x => some (.mv, [x])
  | .nilCheck x => some (.nilck, [x])
  | .binOp op t x y _ => (clsOf P t x y).map fun c => (.bin op c, [x, y])
  | .unOp op _ x => match op with
    | .neg => some (.neg, [x])
    | .not => some (.not, [x])
    | .xor => some (.xor, [x])
    | .plus => none
  | .convert s d x => match P.underlying s, P.underlying d with
    | some _, some (.int k) => some (.conv k, [x])
    | some .string, some .string => some (.convS, [x])
    | _, _ => none
  | .makeInterface t x => match P.underlying t with
    | some (.interface _) => none
    | some _ => some (.mkI t, [x])
    | none => none
  | .makeFunc (.func f) first caps => some (.mkF f first.toList.length, first.toList ++ caps.toList)
  | .slice t x lo hi none => match P.underlying t with
    | some .string => some (.slS lo.isSome hi.isSome, x :: (lo.toList ++ hi.toList))
    | some (.slice e) => match P.info? e with
      | some i => some (.slL i.size lo.isSome hi.isSome, x :: (lo.toList ++ hi.toList))
      | none => none
    | some (.array n e) => match P.info? e with
      | some i => some (.slA n i.size lo.isSome hi.isSome, x :: (lo.toList ++ hi.toList))
      | none => none
    | _ => none
  | .slice t x lo (some hi) (some mx) => match P.underlying t with
    | some (.slice e) => match P.info? e with
      | some i => some (.slM i.size lo.isSome, x :: (lo.toList ++ [hi, mx]))
      | none => none
    | _ => none
  | .fieldAddr s x f => match P.underlying s with
    | some (.struct fs) => match fs[f]? with
      | some fd => match P.info? fd.type with
        | some i => if i.size = 0 then none else some (.fa fd.offset, [x])
        | none => none
      | none => none
    | _ => none
  | .field s x f => match P.underlying s with
    | some (.struct fs) => match fs[f]? with
      | some fd => match P.info? fd.type, P.underlying fd.type with
        | some i, some d => some (.fld fd.offset i.size (isAggD d), [x])
        | _, _ => none
      | none => none
    | _ => none
  | .indexAddr t x i => match P.underlying t with
    | some (.slice e) => match P.info? e with
      | some j => some (.iaS j.size, [x, i])
      | none => none
    | some (.array n e) => match P.info? e with
      | some j => some (.iaA n j.size, [x, i])
      | none => none
    | _ => none
  | .index t x i => match P.underlying t with
    | some .string => some (.ixS, [x, i])
    | some (.array n e) => match P.info? e, P.underlying e with
      | some j, some d => some (.ixA n j.size (isAggD d), [x, i])
      | _, _ => none
    | _ => none
  | .extract x i => some (.ext i, [x])
  | .call c => match c.callee with
    | .builtin b => compB P b c.argTypes c.args.toList
    | _ => none
  | .build t parts => match zeroOf P t with
    | some z => match P.underlying t with
      | some (.struct fs) => match allPlaces P fs.toList with
        | some al => match pickL al (parts.toList.map (·.1)) with
          | some ps => some (.build z ps, parts.toList.map (·.2))
          | none => none
        | none => none
      | some (.array _ e) => match P.info? e with
        | some j => some (.build z (placesA j.size (parts.toList.map (·.1))), parts.toList.map (·.2))
        | none => none
      | _ => none
    | none => none
  | _ => none
end Ev
end Go.Proofs.YtakgohocimlagaaGreat
