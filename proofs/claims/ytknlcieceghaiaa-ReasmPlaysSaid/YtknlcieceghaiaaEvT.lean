/-
  An evaluator over plain data (20): the same functions in a form that the kernel reckons faster: small definitions, each with one match. Of no program. No condition.
-/
import Derived.Test.YtknlcieceghaiaaEvS
namespace Go.Proofs.Ytknlcieceghaiaa
namespace Ev
namespace Fa
set_option linter.unusedVariables false
set_option linter.unusedSimpArgs false
variable {α β : Type}

/-! ### tries -/
def gJ (l r : Nat → Option α) (k : Nat) : Option α := match Nat.mod k 2 with
  | 0 => l (Nat.div k 2)
  | _ + 1 => r (Nat.div k 2)
def gI (v : Option α) (l r : Nat → Option α) (i : Nat) : Option α := match i with
  | 0 => v
  | k + 1 => gJ l r k
noncomputable def tget (t : T α) : Nat → Option α := T.rec (fun _ => none) (fun _ v _ l r => gI v l r) t
theorem tget_eq (t : T α) : tget t = t.get := by
  induction t with
  | e => rfl
  | n l v r h1 h2 =>
    funext i
    have : tget (.n l v r) = gI v (tget l) (tget r) := rfl
    rw [this, h1, h2]
    cases i with
    | zero => rfl
    | succ k =>
      simp only [gI, gJ, T.get, show Nat.mod k 2 = k % 2 from rfl]
      cases k % 2 <;> rfl
def sE (ih : T α → Nat → α → T α) (x : α) (k : Nat) : T α := match Nat.mod k 2 with
  | 0 => T.fl (ih .e (Nat.div k 2) x) none .e
  | _ + 1 => T.fr .e none (ih .e (Nat.div k 2) x)
def sE0 (ih : T α → Nat → α → T α) (x : α) (i : Nat) : T α := match i with
  | 0 => .n .e (some x) .e
  | k + 1 => sE ih x k
def sN (ih : T α → Nat → α → T α) (l : T α) (v : Option α) (r : T α) (x : α) (k : Nat) : T α := match Nat.mod k 2 with
  | 0 => T.fl (ih l (Nat.div k 2) x) v r
  | _ + 1 => T.fr l v (ih r (Nat.div k 2) x)
def sN0 (ih : T α → Nat → α → T α) (l : T α) (v : Option α) (r : T α) (x : α) (i : Nat) : T α := match i with
  | 0 => .n l (some x) r
  | k + 1 => sN ih l v r x k
def sT (ih : T α → Nat → α → T α) (t : T α) (i : Nat) (x : α) : T α := match t with
  | .e => sE0 ih x i
  | .n l v r => sN0 ih l v r x i
noncomputable def tsetF (f : Nat) : T α → Nat → α → T α := Nat.rec (fun t _ _ => t) (fun _ ih => sT ih) f
noncomputable def tset (t : T α) (i : Nat) (x : α) : T α := tsetF (Nat.succ i) t i x
theorem tsetF_eq (f : Nat) : tsetF (α := α) f = T.setF f := by
  induction f with
  | zero => funext t i x; rfl
  | succ f ih =>
    funext t i x
    have : tsetF (α := α) (f + 1) = sT (tsetF f) := rfl
    rw [this, ih]
    cases t with
    | e =>
      cases i with
      | zero => rfl
      | succ k =>
        simp only [sT, sE0, sE, T.setF, show Nat.mod k 2 = k % 2 from rfl]
        cases k % 2 <;> rfl
    | n l v r =>
      cases i with
      | zero => rfl
      | succ k =>
        simp only [sT, sN0, sN, T.setF, show Nat.mod k 2 = k % 2 from rfl]
        cases k % 2 <;> rfl
theorem tset_eq (t : T α) (i : Nat) (x : α) : tset t i x = t.set i x := congrFun (congrFun (congrFun (tsetF_eq _) t) i) x

/-! ### temporaries -/
def lk2 (b : Bool) (v : AV) (ih : Option AV) : Option AV := match b with
  | true => some v
  | false => ih
def lk1 (p : Nat × AV) (t : Nat) (ih : Option AV) : Option AV := match p with
  | (k, v) => lk2 (Nat.beq k t) v ih
noncomputable def lk (t : Nat) (d : Option AV) (l : List (Nat × AV)) : Option AV := List.rec d (fun p _ ih => lk1 p t ih) l
noncomputable def gt (tm : TM) (t : Nat) : Option AV := match tm with
  | ⟨b, l⟩ => lk t (tget b t) l
theorem lk_eq (t : Nat) (d : Option AV) (l : List (Nat × AV)) : lk t d l = (match TM.lk l t with | some v => some v | none => d) := by
  induction l with
  | nil => rfl
  | cons p r ih =>
    obtain ⟨k, v⟩ := p
    have : lk t d ((k, v) :: r) = lk2 (Nat.beq k t) v (lk t d r) := rfl
    rw [this, ih]
    simp only [TM.lk, lk2]
    cases Nat.beq k t <;> rfl
theorem gt_eq (tm : TM) (t : Nat) : gt tm t = tm.get t := by
  obtain ⟨b, l⟩ := tm
  show lk t (tget b t) l = _
  rw [lk_eq, tget_eq]; rfl
noncomputable def ga (tm : TM) (c : CA) : Option AV := match c with
  | .t n => gt tm n
  | .k v => some v
  | .g id => some (.ptr id 0)
theorem ga_eq (tm : TM) (c : CA) : ga tm c = getA tm c := by cases c <;> simp [ga, getA, gt_eq]
def gs2 (a : AV) (r : Option (List AV)) : Option (List AV) := match r with
  | some r => some (a :: r)
  | none => none
def gs1 (o : Option AV) (r : Option (List AV)) : Option (List AV) := match o with
  | some a => gs2 a r
  | none => none
noncomputable def gs (tm : TM) (cs : List CA) : Option (List AV) := List.rec (some []) (fun c _ ih => gs1 (ga tm c) ih) cs
theorem gs_eq (tm : TM) (cs : List CA) : gs tm cs = getAs tm cs := by
  induction cs with
  | nil => rfl
  | cons c r ih =>
    have : gs tm (c :: r) = gs1 (ga tm c) (gs tm r) := rfl
    rw [this, ih, ga_eq]
    simp only [getAs, gs1]
    cases getA tm c with
    | none => rfl
    | some a => simp only [gs2]; cases getAs tm r <;> rfl

/-! ### numbers -/
def ki (a : IntKind) : Nat := match a with
  | .i8 => 0
  | .i16 => 1
  | .i32 => 2
  | .i64 => 3
  | .u8 => 4
  | .u16 => 5
  | .u32 => 6
  | .u64 => 7
theorem ki_eq (a b : IntKind) : Nat.beq (ki a) (ki b) = decide (a = b) := by cases a <;> cases b <;> rfl
def um (m : Nat) (n : Int) : Nat := match n with
  | .ofNat a => Nat.mod a m
  | .negSucc a => Nat.sub (Nat.sub m 1) (Nat.mod a m)
theorem um_eq (m : Nat) (n : Int) : um m n = umod n m := by cases n <;> rfl
def aw2 (b : Bool) (m1 r : Nat) : Int := match b with
  | true => .negSucc (Nat.sub m1 r)
  | false => .ofNat r
def aw1 (h m1 r : Nat) : Int := aw2 (Nat.ble h r) m1 r
def aw (k : IntKind) (n : Int) : Int := match k with
  | .u8 => .ofNat (um 256 n)
  | .u16 => .ofNat (um 65536 n)
  | .u32 => .ofNat (um 4294967296 n)
  | .u64 => .ofNat (um 18446744073709551616 n)
  | .i8 => fN (um 256 n) (aw1 128 255)
  | .i16 => fN (um 65536 n) (aw1 32768 65535)
  | .i32 => fN (um 4294967296 n) (aw1 2147483648 4294967295)
  | .i64 => fN (um 18446744073709551616 n) (aw1 9223372036854775808 18446744073709551615)
theorem aw_eq (k : IntKind) (n : Int) : aw k n = wr false k n := by
  have h : ∀ (h m r : Nat), aw1 h m r = (match Nat.ble h r with | true => Int.negSucc (m - r) | false => Int.ofNat r) := fun h m r => by
    unfold aw1 aw2; cases Nat.ble h r <;> rfl
  cases k <;> simp only [aw, wr, awrap, um_eq, fN_eq, h] <;> rfl
def ib2 (m : Nat) (b : Int) : Bool := match b with
  | .ofNat n => Nat.beq m n
  | .negSucc _ => false
def ib3 (m : Nat) (b : Int) : Bool := match b with
  | .ofNat _ => false
  | .negSucc n => Nat.beq m n
def ib (a b : Int) : Bool := match a with
  | .ofNat m => ib2 m b
  | .negSucc m => ib3 m b
theorem nb (a b : Nat) : Nat.beq a b = decide (a = b) := by
  cases h : Nat.beq a b with
  | true => simp [Nat.eq_of_beq_eq_true h]
  | false => simp [Nat.ne_of_beq_eq_false h]
theorem ib_eq (a b : Int) : ib a b = (a == b) := by
  have e : (a == b) = decide (a = b) := by rw [Bool.eq_iff_iff]; simp
  rw [e]
  cases a <;> cases b <;> simp only [ib, ib2, ib3, nb] <;> rw [Bool.eq_iff_iff] <;> simp <;> omega
def il2 (m : Nat) (b : Int) : Bool := match b with
  | .ofNat n => Nat.ble (Nat.succ m) n
  | .negSucc _ => false
def il3 (m : Nat) (b : Int) : Bool := match b with
  | .ofNat _ => true
  | .negSucc n => Nat.ble (Nat.succ n) m
def il (a b : Int) : Bool := match a with
  | .ofNat m => il2 m b
  | .negSucc m => il3 m b
theorem nl (a b : Nat) : Nat.ble a b = decide (a ≤ b) := by
  cases h : Nat.ble a b with
  | true => simp [Nat.le_of_ble_eq_true h]
  | false => have : ¬ a ≤ b := fun hle => by have := Nat.ble_eq_true_of_le hle; rw [h] at this; cases this
             simp [this]
theorem il_eq (a b : Int) : il a b = decide (a < b) := by
  cases a <;> cases b <;> simp only [il, il2, il3, nl] <;> rw [Bool.eq_iff_iff] <;> simp <;> omega
def nt (b : Bool) : Bool := match b with
  | true => false
  | false => true
theorem nt_eq (b : Bool) : nt b = !b := by cases b <;> rfl
def an (a b : Bool) : Bool := match a with
  | true => b
  | false => false
theorem an_eq (a b : Bool) : an a b = (a && b) := by cases a <;> rfl

abbrev RQ := Option (AV × Bool)
def oI (k : IntKind) (n : Int) : RQ := some (.int k n, true)
def oB (b : Bool) : RQ := some (.bool b, true)
def bI (op : BinOp) (k : IntKind) (a b : Int) : RQ := match op with
  | .add => oI k (aw k (Int.add a b))
  | .sub => oI k (aw k (Int.sub a b))
  | .mul => oI k (aw k (Int.mul a b))
  | .eql => oB (ib a b)
  | .neq => oB (nt (ib a b))
  | .lss => oB (il a b)
  | .leq => oB (nt (il b a))
  | .gtr => oB (il b a)
  | .geq => oB (nt (il a b))
  | op => binI false op k a b
theorem bI_eq (op : BinOp) (k : IntKind) (a b : Int) : bI op k a b = binI false op k a b := by
  have h1 : ∀ x y : Int, (!decide (y < x)) = decide (x ≤ y) := fun x y => by rw [Bool.eq_iff_iff]; simp
  cases op <;> simp only [bI, binI, oI, oB, aw_eq, ib_eq, il_eq, nt_eq, h1] <;> rfl
def bK (q : Bool) (op : BinOp) (k : IntKind) (a b : Int) : RQ := match q with
  | true => bI op k a b
  | false => none
def bS (op : BinOp) (k : IntKind) (a : Int) (k' : IntKind) (b : Int) : RQ := match op with
  | .shl => some (.int k (wr false k (a * p2 (Nat.min b.toNat k.bits))), decide (0 ≤ b))
  | .shr => some (.int k (a.fdiv (p2 (Nat.min b.toNat k.bits))), decide (0 ≤ b))
  | op => bK (Nat.beq (ki k) (ki k')) op k a b
def bN (op : BinOp) (c : EC) (k : IntKind) (a : Int) (y : AV) : RQ := match y with
  | .int k' b => bS op k a k' b
  | _ => none
def bX (op : BinOp) (c : EC) (x y : AV) : RQ := match x with
  | .int k a => bN op c k a y
  | x => binK false op c x y
theorem bX_eq (op : BinOp) (c : EC) (x y : AV) : bX op c x y = binK false op c x y := by
  cases x <;> try rfl
  cases y <;> try rfl
  rename_i k a k' b
  simp only [bX, bN, binK]
  cases op <;> simp only [bS, bK, ki_eq, bI_eq] <;> (try rfl) <;> (by_cases h : k = k' <;> simp [h])

/-! ### kinds of arguments -/
def a1b (x : AV) (r : List AV) (K : AV → Option β) : Option β := match r with
  | [] => K x
  | _ :: _ => none
def a1 (vs : List AV) (K : AV → Option β) : Option β := match vs with
  | [] => none
  | x :: r => a1b x r K
def a2 (vs : List AV) (K : AV → AV → Option β) : Option β := match vs with
  | [] => none
  | x :: r => a1 r (K x)
def kMv (x : AV) : RQ := some (x, true)
def kNeg (x : AV) : RQ := match x with
  | .int k n => oI k (aw k (Int.sub 0 n))
  | _ => none
def kNot (x : AV) : RQ := match x with
  | .bool b => oB (nt b)
  | _ => none
def kConv (k : IntKind) (x : AV) : RQ := match x with
  | .int _ n => oI k (aw k n)
  | _ => none
def kMkI (t : TypeId) (x : AV) : RQ := some (.iface t x, true)
def kFa (o : Nat) (x : AV) : RQ := match x with
  | .ptr id off => some (.ptr id (Nat.add off o), true)
  | _ => none
noncomputable def nth (l : List α) : Nat → Option α := List.rec (fun _ => none) (fun x _ ih i => Nat.rec (some x) (fun k _ => ih k) i) l
theorem nth_eq (l : List α) : ∀ i, nth l i = l[i]? := by
  induction l with
  | nil => intro i; rfl
  | cons x r ih =>
    intro i
    cases i with
    | zero => rfl
    | succ k => rw [List.getElem?_cons_succ, ← ih k]; rfl
def kO (o : Option AV) : RQ := match o with
  | some v => some (v, true)
  | none => none
noncomputable def kFld1 (off : Nat) (cs : List AV) : RQ := kO (nth cs off)
noncomputable def kFld (off : Nat) (x : AV) : RQ := match x with
  | .agg cs => kFld1 off cs
  | _ => none
noncomputable def kExt (i : Nat) (x : AV) : RQ := match x with
  | .tup vs => kO (nth vs i)
  | _ => none
def inR (n : Nat) (i : Int) : Bool := match i with
  | .ofNat i => Nat.ble (Nat.succ i) n
  | .negSucc _ => false
theorem inR_eq (n : Nat) (i : Int) : inR n i = (decide (0 ≤ i) && decide (i < (n : Int))) := by
  cases i <;> simp only [inR, nl] <;> rw [Bool.eq_iff_iff] <;> simp <;> omega
def kIaS1 (z id off len : Nat) (i : AV) : RQ := match i with
  | .int _ i => some (.ptr id (Nat.add off (Nat.mul i.toNat z)), inR len i)
  | _ => none
def kIaS (z : Nat) (x i : AV) : RQ := match x with
  | .sl id off len _ => kIaS1 z id off len i
  | _ => none
def kIaA (n z : Nat) (x i : AV) : RQ := match x with
  | .ptr id off => kIaS1 z id off n i
  | _ => none
def kLenL (x : AV) : RQ := match x with
  | .sl _ _ len _ => oI .i64 (.ofNat len)
  | .nils => oI .i64 (.ofNat 0)
  | _ => none
noncomputable def xK (k : PK) (vs : List AV) : RQ := match k with
  | .mv => a1 vs kMv
  | .bin op c => a2 vs (bX op c)
  | .neg => a1 vs kNeg
  | .not => a1 vs kNot
  | .conv k => a1 vs (kConv k)
  | .mkI t => a1 vs (kMkI t)
  | .fa o => a1 vs (kFa o)
  | .fld off sz agg => Bool.rec (a1 vs (kFld off)) (execK false (.fld off sz true) vs) agg
  | .ext i => a1 vs (kExt i)
  | .iaS z => a2 vs (kIaS z)
  | .iaA n z => a2 vs (kIaA n z)
  | .lenL => a1 vs kLenL
  | k => execK false k vs
theorem a1_eq {vs : List AV} {K : AV → Option β} : a1 vs K = (match vs with | [x] => K x | _ => none) := by
  cases vs with
  | nil => rfl
  | cons x r => cases r <;> rfl
theorem xK_eq (k : PK) (vs : List AV) : xK k vs = execK false k vs := by
  have h1 : ∀ (o : Option AV), kO o = (match o with | some v => some (v, true) | none => none) := fun o => by cases o <;> rfl
  cases k <;> try rfl
  case mv => rcases vs with _ | ⟨x, _ | ⟨y, r⟩⟩ <;> rfl
  case bin => rcases vs with _ | ⟨x, _ | ⟨y, _ | ⟨z, r⟩⟩⟩ <;> first | rfl | exact bX_eq _ _ _ _
  case neg => rcases vs with _ | ⟨x, _ | ⟨y, r⟩⟩ <;> first | rfl | (cases x <;> first | rfl | (simp only [xK, a1, a1b, kNeg, execK, oI, aw_eq]; rfl))
  case not => rcases vs with _ | ⟨x, _ | ⟨y, r⟩⟩ <;> first | rfl | (cases x <;> first | rfl | (simp only [xK, a1, a1b, kNot, execK, oB, nt_eq]))
  case conv => rcases vs with _ | ⟨x, _ | ⟨y, r⟩⟩ <;> first | rfl | (cases x <;> first | rfl | (simp only [xK, a1, a1b, kConv, execK, oI, aw_eq]))
  case mkI => rcases vs with _ | ⟨x, _ | ⟨y, r⟩⟩ <;> rfl
  case fa => rcases vs with _ | ⟨x, _ | ⟨y, r⟩⟩ <;> first | rfl | (cases x <;> rfl)
  case fld off sz agg =>
    cases agg with
    | true => rfl
    | false => rcases vs with _ | ⟨x, _ | ⟨y, r⟩⟩ <;> first | rfl | (cases x <;> first | rfl | (simp only [xK, a1, a1b, kFld, kFld1, nth_eq, execK, h1]; rfl))
  case ext => rcases vs with _ | ⟨x, _ | ⟨y, r⟩⟩ <;> first | rfl | (cases x <;> first | rfl | (simp only [xK, a1, a1b, kExt, nth_eq, execK, h1]; rfl))
  case iaS => rcases vs with _ | ⟨x, _ | ⟨y, _ | ⟨z, r⟩⟩⟩ <;> first | rfl | (cases x <;> first | rfl | (cases y <;> first | rfl | (simp only [xK, a2, a1, a1b, kIaS, kIaS1, execK, inR_eq]; rfl)))
  case iaA => rcases vs with _ | ⟨x, _ | ⟨y, _ | ⟨z, r⟩⟩⟩ <;> first | rfl | (cases x <;> first | rfl | (cases y <;> first | rfl | (simp only [xK, a2, a1, a1b, kIaA, kIaS1, execK, inR_eq]; rfl)))
  case lenL => rcases vs with _ | ⟨x, _ | ⟨y, r⟩⟩ <;> first | rfl | (cases x <;> rfl)

/-! ### operations -/
def fqB (b : Bool) (K : AV → β) : β := match b with
  | true => K (.bool true)
  | false => K (.bool false)
def fqN (k : IntKind) (n : Nat) (K : AV → β) : β := match n with
  | 0 => K (.int k (.ofNat 0))
  | m + 1 => K (.int k (.ofNat (Nat.succ m)))
def fqM (k : IntKind) (n : Nat) (K : AV → β) : β := match n with
  | 0 => K (.int k (.negSucc 0))
  | m + 1 => K (.int k (.negSucc (Nat.succ m)))
def fqI (k : IntKind) (n : Int) (K : AV → β) : β := match n with
  | .ofNat m => fqN k m K
  | .negSucc m => fqM k m K
def fqP1 (id : Nat) (K : AV → β) (off : Nat) : β := K (.ptr id off)
def fqP (id off : Nat) (K : AV → β) : β := fN off (fqP1 id K)
def fq (v : AV) (K : AV → β) : β := match v with
  | .bool b => fqB b K
  | .int k n => fqI k n K
  | .ptr id off => fqP id off K
  | v => fV false v K
theorem fq_eq (v : AV) (K : AV → β) : fq v K = K v := by
  cases v with
  | bool b => cases b <;> rfl
  | int k n => cases n <;> rename_i m <;> cases m <;> rfl
  | ptr id off => simp [fq, fqP, fqP1]
  | _ => simp [fq]

def put1 (tm : TM) (t : Nat) (s : MS) (v : AV) : Option CS := match tm with
  | ⟨b, l⟩ => some ⟨⟨b, (t, v) :: l⟩, s⟩
def put0 (d : Option Nat) (tm : TM) (s : MS) (v : AV) : Option CS := match d with
  | some t => put1 tm t s v
  | none => some ⟨tm, s⟩
theorem put0_eq (d : Option Nat) (tm : TM) (s : MS) (v : AV) : put0 d tm s v = some ⟨putT tm d v, s⟩ := by
  cases d <;> rfl
def wS1 (m : T Slot) (hs : List (Nat × Bool)) (ok : Prop) (K : MS → β) (n : Nat) : β := K ⟨m, n, hs, ok⟩
def wS0 (hs : List (Nat × Bool)) (ok : Prop) (n : Nat) (K : MS → β) (m : T Slot) : β := fN n (wS1 m hs ok K)
def wS (s : MS) (m : T Slot) (n : Nat) (K : MS → β) : β := match s with
  | ⟨_, _, hs, ok⟩ => T.seq m (wS0 hs ok n K)
theorem wS_eq (s : MS) (m : T Slot) (n : Nat) (K : MS → β) : wS s m n K = K { s with mem := m, n := n } := by
  simp [wS, wS0, wS1]
def fin (d : Option Nat) (tm : TM) (v : AV) (s : MS) : Option CS := fq v (put0 d tm s)
theorem fin_eq (d : Option Nat) (tm : TM) (v : AV) (s : MS) : fin d tm v s = some ⟨putT tm d v, s⟩ := by simp only [fin, fq_eq, put0_eq]
def done (d : Option Nat) (tm : TM) (r : Option (AV × MS)) : Option CS := match r with
  | some (v, s) => some ⟨putT tm d v, s⟩
  | none => none

def xP2 (d : Option Nat) (tm : TM) (s : MS) (v : AV) (q : Bool) : Option CS := match q with
  | true => fin d tm v s
  | false => none
def xP1 (d : Option Nat) (tm : TM) (s : MS) (p : AV × Bool) : Option CS := match p with
  | (v, q) => xP2 d tm s v q
def xP (d : Option Nat) (tm : TM) (s : MS) (r : RQ) : Option CS := match r with
  | some p => xP1 d tm s p
  | none => none
noncomputable def xPa (d : Option Nat) (tm : TM) (s : MS) (k : PK) (vs : Option (List AV)) : Option CS := match vs with
  | some vs => xP d tm s (xK k vs)
  | none => none
def xO (d : Option Nat) (tm : TM) (s : MS) (r : Option AV) : Option CS := match r with
  | some v => fin d tm v s
  | none => none
noncomputable def xPc (d : Option Nat) (tm : TM) (s : MS) (a b : CA) (c : Bool) : Option CS := match c with
  | true => xO d tm s (ga tm a)
  | false => xO d tm s (ga tm b)
noncomputable def xPb (d : Option Nat) (tm : TM) (s : MS) (a b : CA) (v : AV) : Option CS := match v with
  | .bool c => xPc d tm s a b c
  | _ => none
noncomputable def xPk (d : Option Nat) (tm : TM) (s : MS) (a b : CA) (v : Option AV) : Option CS := match v with
  | some v => xPb d tm s a b v
  | none => none
noncomputable def ldZ (sz : Nat) (agg : Bool) (off : Nat) (cs : List AV) (ext : Bool) : Option AV := match agg with
  | false => nth cs off
  | true => execL (.ld sz true) [.ptr 0 off] (.row cs ext)
noncomputable def ldY (sz : Nat) (agg : Bool) (off : Nat) (o : AO) : Option AV := match o with
  | .row cs e => ldZ sz agg off cs e
  | _ => none
noncomputable def ldX (sz : Nat) (agg : Bool) (o : AO) (x : AV) : Option AV := match x with
  | .ptr _ off => ldY sz agg off o
  | _ => none
noncomputable def xL (k : LK) (vs : List AV) (o : AO) : Option AV := match k with
  | .ld sz agg => a1 vs (ldX sz agg o)
  | k => execL k vs o
theorem xL_eq (k : LK) (vs : List AV) (o : AO) : xL k vs o = execL k vs o := by
  cases k <;> try rfl
  rename_i sz agg
  rcases vs with _ | ⟨x, _ | ⟨y, r⟩⟩ <;> first | rfl | (cases x <;> first | rfl | (cases o <;> first | rfl | (cases agg <;> first | rfl | (simp only [xL, a1, a1b, ldX, ldY, ldZ, nth_eq, execL]))))
def tgP (x : AV) : Option Nat := match x with
  | .ptr id _ => some id
  | _ => none
def tg (k : LK) (vs : List AV) : Option Nat := match k with
  | .ld _ _ => a1 vs tgP
  | k => tgt k vs
theorem tg_eq (k : LK) (vs : List AV) : tg k vs = tgt k vs := by
  cases k <;> try rfl
  rcases vs with _ | ⟨x, _ | ⟨y, r⟩⟩ <;> first | rfl | (cases x <;> rfl)
noncomputable def xLs (d : Option Nat) (tm : TM) (s : MS) (k : LK) (vs : List AV) (sl : Option Slot) : Option CS := match sl with
  | some ⟨o, _, _⟩ => xO d tm s (xL k vs o)
  | none => none
noncomputable def xL1 (d : Option Nat) (tm : TM) (s : MS) (k : LK) (vs : List AV) (id : Option Nat) : Option CS := match id with
  | some id => xLs d tm s k vs (tget s.mem id)
  | none => xO d tm s (xL k vs .dead)
noncomputable def xLa (d : Option Nat) (tm : TM) (s : MS) (k : LK) (vs : Option (List AV)) : Option CS := match vs with
  | some vs => xL1 d tm s k vs (tg k vs)
  | none => none
noncomputable def xA2 (d : Option Nat) (tm : TM) (s : MS) (o : AO) (v : AV) (q : Bool) : Option CS := match q with
  | true => wS s (tset s.mem s.n ⟨o, s.n, true⟩) (Nat.succ s.n) (fin d tm v)
  | false => none
noncomputable def xA1 (d : Option Nat) (tm : TM) (s : MS) (r : Option (AO × Nat × AV × Bool)) : Option CS := match r with
  | some (o, _, v, q) => xA2 d tm s o v q
  | none => none
noncomputable def xAa (d : Option Nat) (tm : TM) (s : MS) (k : AK) (vs : Option (List AV)) : Option CS := match vs with
  | some vs => xA1 d tm s (execA k vs s.n)
  | none => none
abbrev RE := Option (AV × T Slot × Nat × Bool)
noncomputable def stW (m : T Slot) (n id : Nat) (ext : Bool) (cs : List AV) : RE := some (.tup [], tset m id ⟨.row cs ext, n, true⟩, Nat.succ n, true)
noncomputable def stZ (sz : Nat) (m : T Slot) (n id off : Nat) (v : AV) (cs : List AV) (ext : Bool) : RE := match an (an (Nat.beq (cellsA v).length sz) (Nat.ble (off + sz) cs.length)) (scals (cellsA v)) with
  | true => fL (overL cs off (cellsA v)) (stW m n id ext)
  | false => none
noncomputable def stO (sz : Nat) (m : T Slot) (n id off : Nat) (v : AV) (o : AO) : RE := match o with
  | .row cs ext => stZ sz m n id off v cs ext
  | _ => none
noncomputable def stM (sz : Nat) (m : T Slot) (n id off : Nat) (v : AV) (o : AO) (mu : Bool) : RE := match mu with
  | true => stO sz m n id off v o
  | false => none
noncomputable def stS (sz : Nat) (m : T Slot) (n id off : Nat) (v : AV) (s : Option Slot) : RE := match s with
  | some ⟨o, _, mu⟩ => stM sz m n id off v o mu
  | none => none
noncomputable def stP (sz : Nat) (m : T Slot) (n : Nat) (p v : AV) : RE := match p with
  | .ptr id off => stS sz m n id off v (tget m id)
  | _ => none
noncomputable def xE (k : EK) (vs : List AV) (m : T Slot) (n : Nat) : RE := match k with
  | .st sz => a2 vs (stP sz m n)
  | k => execE k vs m n
theorem xE_eq (k : EK) (vs : List AV) (m : T Slot) (n : Nat) : xE k vs m n = execE k vs m n := by
  cases k <;> try rfl
  rcases vs with _ | ⟨x, _ | ⟨y, _ | ⟨z, r⟩⟩⟩ <;> first | rfl | (cases x <;> rfl) | skip
  cases x <;> try rfl
  rename_i sz id off
  simp only [xE, a2, a1, a1b, stP, tget_eq, execE]
  cases hm : m.get id with
  | none => rfl
  | some sl =>
    obtain ⟨o, st, mu⟩ := sl
    cases o <;> cases mu <;> first | rfl | skip
    simp only [stS, stM, stO, stZ, an_eq]
    cases (Nat.beq (cellsA y).length sz && Nat.ble (off + sz) _ && scals (cellsA y)) <;> simp only [fL_eq, stW, tset_eq] <;> rfl
noncomputable def xE2 (d : Option Nat) (tm : TM) (s : MS) (v : AV) (m : T Slot) (n : Nat) (q : Bool) : Option CS := match q with
  | true => wS s m n (fin d tm v)
  | false => none
noncomputable def xE1 (d : Option Nat) (tm : TM) (s : MS) (r : RE) : Option CS := match r with
  | some (v, m, n, q) => xE2 d tm s v m n q
  | none => none
noncomputable def xEa (d : Option Nat) (tm : TM) (s : MS) (k : EK) (vs : Option (List AV)) : Option CS := match vs with
  | some vs => xE1 d tm s (xE k vs s.mem s.n)
  | none => none
def xC3 (d : Option Nat) (tm : TM) (r : Option (AV × MS)) : Option CS := match r with
  | some (v, s) => fin d tm v s
  | none => none
def xC2 (call : CallF) (d : Option Nat) (tm : TM) (s : MS) (f : FuncId) (x y z : List AV) : Option CS := xC3 d tm (call f (x ++ y ++ z) s)
def xC1 (call : CallF) (d : Option Nat) (tm : TM) (s : MS) (vs : List AV) (v : AV) : Option CS := match v with
  | .fn f x z => xC2 call d tm s f x vs z
  | _ => none
def xC0 (call : CallF) (d : Option Nat) (tm : TM) (s : MS) (vs : List AV) : Option CS := match vs with
  | v :: vs => xC1 call d tm s vs v
  | [] => none
def xC (call : CallF) (d : Option Nat) (tm : TM) (s : MS) (vs : Option (List AV)) : Option CS := match vs with
  | some vs => xC0 call d tm s vs
  | none => none
noncomputable def x1 (call : CallF) (op : RO) (d : Option Nat) (tm : TM) (s : MS) : Option CS := match op with
  | .p k xs => xPa d tm s k (gs tm xs)
  | .pick c a b => xPk d tm s a b (ga tm c)
  | .l k xs => xLa d tm s k (gs tm xs)
  | .a k xs => xAa d tm s k (gs tm xs)
  | .e k xs => xEa d tm s k (gs tm xs)
  | .call xs => xC call d tm s (gs tm xs)
  | .m x => xC3 d tm (execV call false (.m x) tm s)
  | .bad => none
theorem x1_eq (call : CallF) (op : RO) (d : Option Nat) (tm : TM) (s : MS) : x1 call op d tm s = done d tm (execV call false op tm s) := by
  cases op with
  | p k xs =>
    simp only [x1, gs_eq, execV]
    cases getAs tm xs with
    | none => rfl
    | some vs =>
      simp only [xPa, xK_eq]
      cases execK false k vs with
      | none => rfl
      | some p => obtain ⟨v, q⟩ := p; cases q <;> simp [xP, xP1, xP2, fin_eq, chk, done]
  | pick c a b =>
    simp only [x1, ga_eq, execV]
    cases getA tm c with
    | none => rfl
    | some v =>
      cases v <;> try rfl
      rename_i cb
      cases cb
      · simp only [xPk, xPb, xPc, ga_eq, dec]
        cases getA tm b <;> simp [xO, fin_eq, done]
      · simp only [xPk, xPb, xPc, ga_eq, dec]
        cases getA tm a <;> simp [xO, fin_eq, done]
  | l k xs =>
    simp only [x1, gs_eq, execV]
    cases getAs tm xs with
    | none => rfl
    | some vs =>
      simp only [xLa, tg_eq]
      cases tgt k vs with
      | none => simp only [xL1, xL_eq]; cases execL k vs .dead <;> simp [xO, fin_eq, done]
      | some id =>
        simp only [xL1, tget_eq]
        cases s.mem.get id with
        | none => rfl
        | some sl => obtain ⟨o, st, mu⟩ := sl; simp only [xLs, xL_eq]; cases execL k vs o <;> simp [xO, fin_eq, done]
  | a k xs =>
    simp only [x1, gs_eq, execV]
    cases getAs tm xs with
    | none => rfl
    | some vs =>
      simp only [xAa]
      cases execA k vs s.n with
      | none => rfl
      | some p => obtain ⟨o, t, v, q⟩ := p; cases q <;> simp [xA1, xA2, wS_eq, fin_eq, chk, done, tset_eq]
  | e k xs =>
    simp only [x1, gs_eq, execV]
    cases getAs tm xs with
    | none => rfl
    | some vs =>
      simp only [xEa, xE_eq]
      cases execE k vs s.mem s.n with
      | none => rfl
      | some p => obtain ⟨v, m, n, q⟩ := p; cases q <;> simp [xE1, xE2, wS_eq, fin_eq, chk, done]
  | call xs =>
    simp only [x1, gs_eq, execV]
    cases getAs tm xs with
    | none => rfl
    | some vs =>
      rcases vs with _ | ⟨v, vs⟩
      · rfl
      · cases v <;> try rfl
        simp only [xC, xC0, xC1, xC2, xC3, done, fin_eq]
  | m x => simp only [x1, xC3, done, fin_eq]
  | bad => rfl
noncomputable def xG5 (call : CallF) (op : RO) (d : Option Nat) (tm : TM) (s : MS) (q : Bool) : Option CS := match q with
  | true => x1 call op d tm s
  | false => put0 d tm s (.tup [])
noncomputable def xG4 (call : CallF) (op : RO) (d : Option Nat) (tm : TM) (s : MS) (b c : Bool) : Option CS := match c with
  | true => xG5 call op d tm s b
  | false => xG5 call op d tm s (nt b)
noncomputable def xG3 (call : CallF) (op : RO) (d : Option Nat) (tm : TM) (s : MS) (b : Bool) (v : AV) : Option CS := match v with
  | .bool c => xG4 call op d tm s b c
  | .tup _ => put0 d tm s (.tup [])
  | _ => none
noncomputable def xG2 (call : CallF) (op : RO) (d : Option Nat) (tm : TM) (s : MS) (b : Bool) (v : Option AV) : Option CS := match v with
  | some v => xG3 call op d tm s b v
  | none => none
noncomputable def xG1 (call : CallF) (op : RO) (d : Option Nat) (tm : TM) (s : MS) (p : Nat × Bool) : Option CS := match p with
  | (t, b) => xG2 call op d tm s b (gt tm t)
noncomputable def xG (call : CallF) (op : RO) (d : Option Nat) (tm : TM) (s : MS) (g : Option (Nat × Bool)) : Option CS := match g with
  | none => x1 call op d tm s
  | some p => xG1 call op d tm s p
noncomputable def xx (call : CallF) (o : ROp) (tm : TM) (s : MS) : Option CS := match o with
  | ⟨d, g, op, _⟩ => xG call op d tm s g
theorem exec1_done (call : CallF) (sy : Bool) (o : ROp) (tm : TM) (s : MS) : exec1 call sy o tm s = done o.dst tm (execG call sy o tm s) := by
  unfold exec1
  cases execG call sy o tm s with
  | none => rfl
  | some p => obtain ⟨v, s'⟩ := p; simp only [fV_eq, TM.seq_eq, fS_eq, done]
theorem xx_eq (call : CallF) (o : ROp) (tm : TM) (s : MS) : xx call o tm s = exec1 call false o tm s := by
  rw [exec1_done]
  obtain ⟨d, g, op, pm⟩ := o
  simp only [xx, execG]
  rcases g with _ | ⟨t, b⟩
  · simp only [xG, want, x1_eq]
  · simp only [xG, xG1, gt_eq, want]
    cases tm.get t with
    | none => rfl
    | some v =>
      cases v <;> try rfl
      · rename_i c
        cases c <;> cases b <;> simp only [xG2, xG3, xG4, xG5, nt, x1_eq, dec, put0_eq, done]
      · simp only [xG2, xG3, put0_eq, done]

/-! ### code -/
def rs1 (r : Option CS) (ih : TM → MS → Option CS) : Option CS := match r with
  | some ⟨tm, s⟩ => ih tm s
  | none => none
def rsN (tm : TM) (s : MS) : Option CS := some ⟨tm, s⟩
noncomputable def rsC (call : CallF) (o : ROp) (ih : TM → MS → Option CS) (tm : TM) (s : MS) : Option CS := rs1 (xx call o tm s) ih
noncomputable def rs (call : CallF) (ops : List ROp) : TM → MS → Option CS := List.rec rsN (fun o _ ih => rsC call o ih) ops
theorem rs_eq (call : CallF) : ∀ (ops : List ROp) (tm : TM) (s : MS), rs call ops tm s = runSeq call false ops tm s
  | [], tm, s => rfl
  | o :: r, tm, s => by
    have : rs call (o :: r) tm s = rs1 (xx call o tm s) (rs call r) := rfl
    rw [this, xx_eq]
    simp only [runSeq]
    cases exec1 call false o tm s with
    | none => rfl
    | some c => obtain ⟨tm', s'⟩ := c; exact rs_eq call r tm' s'
abbrev TR := Option (List CS × CS)
def tr2 (tm : TM) (s : MS) (r : TR) : TR := match r with
  | some (l, f) => some (⟨tm, s⟩ :: l, f)
  | none => none
def tr1 (tm0 : TM) (s0 : MS) (r : Option CS) (ih : TM → MS → TR) : TR := match r with
  | some ⟨tm, s⟩ => tr2 tm0 s0 (ih tm s)
  | none => none
def trN (tm : TM) (s : MS) : TR := some ([], ⟨tm, s⟩)
noncomputable def trC (call : CallF) (o : ROp) (ih : TM → MS → TR) (tm : TM) (s : MS) : TR := tr1 tm s (xx call o tm s) ih
noncomputable def tr (call : CallF) (ops : List ROp) : TM → MS → TR := List.rec trN (fun o _ ih => trC call o ih) ops
theorem tr_eq (call : CallF) : ∀ (ops : List ROp) (tm : TM) (s : MS), tr call ops tm s = runTr call false ops tm s
  | [], tm, s => rfl
  | o :: r, tm, s => by
    have : tr call (o :: r) tm s = tr1 tm s (xx call o tm s) (tr call r) := rfl
    rw [this, xx_eq]
    simp only [runTr]
    cases exec1 call false o tm s with
    | none => rfl
    | some c =>
      obtain ⟨tm', s'⟩ := c
      simp only [tr1, tr_eq call r tm' s']
      cases runTr call false r tm' s' with
      | none => rfl
      | some p => obtain ⟨l, f⟩ := p; rfl
abbrev XS := Option (Ex × CS)
def fl3 (b : Bool) (k : Nat) (v : AV) (t : T AV) (ts : T AV → Nat → AV → T AV) : T AV := match b with
  | true => T.seq t fun t => ts t k v
  | false => t
noncomputable def fl1 (mask : Nat) (p : Nat × AV) (t : T AV) : T AV := match p with
  | (k, v) => fl3 (Nat.beq (Nat.land 1 (Nat.shiftRight mask k)) 1) k v t tset
noncomputable def fls (mask : Nat) (l : List (Nat × AV)) (b : T AV) : T AV := List.rec b (fun p _ ih => fl1 mask p ih) l
theorem fls_eq (mask : Nat) (b : T AV) : ∀ l, fls mask l b = TM.flushL mask l b
  | [] => rfl
  | (k, v) :: r => by
    have : fls mask ((k, v) :: r) b = fl3 (Nat.beq (Nat.land 1 (Nat.shiftRight mask k)) 1) k v (fls mask r b) tset := rfl
    rw [this, fls_eq mask b r]
    have e : Nat.beq (Nat.land 1 (Nat.shiftRight mask k)) 1 = Nat.testBit mask k := by
      unfold Nat.testBit
      show Nat.beq (1 &&& (mask >>> k)) 1 = ((1 &&& (mask >>> k)) != 0)
      have h : 1 &&& (mask >>> k) = (mask >>> k) % 2 := Nat.one_and_eq_mod_two _
      rw [h]
      rcases Nat.mod_two_eq_zero_or_one (mask >>> k) with h | h <;> rw [h] <;> rfl
    rw [e]
    simp only [TM.flushL, fl3]
    cases Nat.testBit mask k <;> simp [tset_eq]
def fl5 (s : MS) (b : T AV) : XS := some (.norm, ⟨⟨b, []⟩, s⟩)
noncomputable def fl4 (mask : Nat) (tm : TM) (s : MS) : XS := match tm with
  | ⟨b, l⟩ => T.seq (fls mask l b) (fl5 s)
noncomputable def fl (mask : Nat) (r : Option CS) : XS := match r with
  | some ⟨tm, s⟩ => fl4 mask tm s
  | none => none
theorem fl_eq (mask : Nat) (s : CS) : fl mask (some s) = flK mask s := by
  obtain ⟨⟨b, l⟩, s⟩ := s
  simp only [fl, fl4, fls_eq, flK, T.seq_eq, fl5]
def dr2 (f : CS) (q : Bool) : Option CS := match q with
  | true => some f
  | false => none
def dr1 (ops : List ROp) (r : TR) : Option CS := match r with
  | some (l, f) => dr2 f (staysAll ops (l ++ [f]) 0 ops l)
  | none => none
noncomputable def dr (call : CallF) (ops : List ROp) (tm : TM) (s : MS) : Option CS := dr1 ops (tr call ops tm s)
theorem dr_eq (call : CallF) (ops : List ROp) (tm : TM) (s : MS) : dr call ops tm s = runDraw call false ops tm s := by
  simp only [dr, tr_eq, runDraw]
  cases runTr call false ops tm s with
  | none => rfl
  | some p => obtain ⟨l, f⟩ := p; simp only [dr1]; cases staysAll ops (l ++ [f]) 0 ops l <;> rfl
noncomputable def eR (call : CallF) (ops : List ROp) (mask : Nat) (s : CS) : XS := match s with
  | ⟨tm, s⟩ => fl mask (rs call ops tm s)
noncomputable def eD (call : CallF) (ops : List ROp) (mask : Nat) (s : CS) : XS := match s with
  | ⟨tm, s⟩ => fl mask (dr call ops tm s)
def eS2 (ih : CC → CS → XS) (b : CC) (x : Ex) (s : CS) : XS := match x with
  | .norm => ih b s
  | x => some (x, s)
def eS1 (ih : CC → CS → XS) (b : CC) (r : XS) : XS := match r with
  | some (x, s) => eS2 ih b x s
  | none => none
def eB3 (s : CS) (j : Nat) (q : Bool) : XS := match q with
  | true => some (.norm, s)
  | false => some (.exit j, s)
def eB2 (id : Nat) (x : Ex) (s : CS) : XS := match x with
  | .exit j => eB3 s j (Nat.beq j id)
  | x => some (x, s)
def eB1 (id : Nat) (r : XS) : XS := match r with
  | some (x, s) => eB2 id x s
  | none => none
def eC3 (ih : CC → CS → XS) (a b : CC) (s : CS) (c : Bool) : XS := match c with
  | true => ih a s
  | false => ih b s
def eC2 (ih : CC → CS → XS) (a b : CC) (s : CS) (v : AV) : XS := match v with
  | .bool c => eC3 ih a b s c
  | _ => none
def eC1 (ih : CC → CS → XS) (a b : CC) (s : CS) (v : Option AV) : XS := match v with
  | some v => eC2 ih a b s v
  | none => none
noncomputable def eC (ih : CC → CS → XS) (c : CA) (a b : CC) (s : CS) : XS := match s with
  | ⟨tm, m⟩ => eC1 ih a b ⟨tm, m⟩ (ga tm c)
noncomputable def es (call : CallF) (ih : CC → CS → XS) (c : CC) (s : CS) : XS := match c with
  | .skip => some (.norm, s)
  | .reg ops mask => eR call ops mask s
  | .dreg ops mask => eD call ops mask s
  | .seq a b => eS1 ih b (ih a s)
  | .cond c a b => eC ih c a b s
  | .block id c => eB1 id (ih c s)
  | .loop c => eS1 ih (.loop c) (ih c s)
  | .exit id => some (.exit id, s)
  | .ret => some (.ret, s)
  | .bad => none
theorem es_eq (call : CallF) (ih : CC → CS → XS) (c : CC) (s : CS) : es call ih c s = evStep call false ih c s := by
  cases c with
  | reg ops mask =>
    obtain ⟨tm, s⟩ := s
    simp only [es, eR, rs_eq, evStep]
    cases runSeq call false ops tm s with
    | none => rfl
    | some s' => exact fl_eq mask s'
  | dreg ops mask =>
    obtain ⟨tm, s⟩ := s
    simp only [es, eD, dr_eq, evStep]
    cases runDraw call false ops tm s with
    | none => rfl
    | some s' => exact fl_eq mask s'
  | seq a b =>
    simp only [es, evStep]
    cases ih a s with
    | none => rfl
    | some p => obtain ⟨x, s'⟩ := p; cases x <;> rfl
  | loop b =>
    simp only [es, evStep]
    cases ih b s with
    | none => rfl
    | some p => obtain ⟨x, s'⟩ := p; cases x <;> rfl
  | block id b =>
    simp only [es, evStep]
    cases ih b s with
    | none => rfl
    | some p =>
      obtain ⟨x, s'⟩ := p
      cases x <;> first | rfl | (simp only [eB1, eB2]; cases Nat.beq _ _ <;> rfl)
  | cond c a b =>
    obtain ⟨tm, s⟩ := s
    simp only [es, eC, ga_eq, evStep]
    cases getA tm c with
    | none => rfl
    | some v =>
      cases v <;> first | rfl | (rename_i cb; cases cb <;> rfl)
  | skip => rfl
  | exit id => rfl
  | ret => rfl
  | bad => rfl
noncomputable def pa (vs : List AV) : T AV → Nat → T AV := List.rec (fun t _ => t) (fun v _ ih t i => ih (tset t i v) (Nat.succ i)) vs
theorem pa_eq : ∀ (vs : List AV) (t : T AV) (i : Nat), pa vs t i = putArgs t i vs
  | [], t, i => rfl
  | v :: r, t, i => by
    have : pa (v :: r) t i = pa r (tset t i v) (i + 1) := rfl
    rw [this, pa_eq r, tset_eq]; rfl
def cS3 (s : MS) (r : Option (List AV)) : Option (AV × MS) := match r with
  | some l => some (resV l, s)
  | none => none
def cS2 (res : List CR) (s : CS) : Option (AV × MS) := match s with
  | ⟨tm, s⟩ => cS3 s (allRes tm s.mem res)
def cS1 (res : List CR) (x : Ex) (s : CS) : Option (AV × MS) := match x with
  | .exit _ => none
  | _ => cS2 res s
def cS0 (res : List CR) (r : XS) : Option (AV × MS) := match r with
  | some (x, s) => cS1 res x s
  | none => none
def cB (ih : CC → CS → XS) (body : CC) (res : List CR) (s : MS) (tm : T AV) : Option (AV × MS) := cS0 res (ih body ⟨⟨tm, []⟩, s⟩)
noncomputable def cA (ih : CC → CS → XS) (body : CC) (res : List CR) (vs : List AV) (s : MS) (q : Bool) : Option (AV × MS) := match q with
  | true => T.seq (pa vs .e 0) (cB ih body res s)
  | false => none
noncomputable def cX (ih : CC → CS → XS) (vs : List AV) (s : MS) (nt : Nat) (body : CC) (res : List CR) (mask : Nat) (x : Option XK) : Option (AV × MS) := match x with
  | some k => execX k vs s
  | none => cA ih body res vs s (Nat.ble vs.length nt && allBits mask vs.length)
noncomputable def cF (ih : CC → CS → XS) (vs : List AV) (s : MS) (cf : CF) : Option (AV × MS) := match cf with
  | ⟨nt, body, res, mask, x⟩ => cX ih vs s nt body res mask x
noncomputable def cO (ih : CC → CS → XS) (vs : List AV) (s : MS) (cf : Option CF) : Option (AV × MS) := match cf with
  | some cf => cF ih vs s cf
  | none => none
noncomputable def cs (F : Nat → Option CF) (ih : CC → CS → XS) (f : FuncId) (vs : List AV) (s : MS) : Option (AV × MS) := cO ih vs s (F f)
theorem cs_eq (F : Nat → Option CF) (ih : CC → CS → XS) : cs F ih = callStep F false ih := by
  funext f vs s
  simp only [cs, callStep]
  cases F f with
  | none => rfl
  | some cf =>
    obtain ⟨nt, body, res, mask, x⟩ := cf
    cases x with
    | some k => rfl
    | none =>
      simp only [cO, cF, cX, callBody]
      cases (Nat.ble vs.length nt && allBits mask vs.length) with
      | false => rfl
      | true =>
        simp only [cA, cB, T.seq_eq, pa_eq]
        cases ih body ⟨⟨putArgs .e 0 vs, []⟩, s⟩ with
        | none => rfl
        | some p =>
          obtain ⟨x, tm, s'⟩ := p
          cases x <;> simp only [cS0, cS1, cS2] <;> (try rfl) <;> (cases allRes tm s'.mem res <;> rfl)
def evN (c : CC) (s : CS) : XS := none
noncomputable def evC (F : Nat → Option CF) (ih : CC → CS → XS) : CC → CS → XS := es (cs F ih) ih
noncomputable def evl (F : Nat → Option CF) : Nat → CC → CS → XS := Nat.rec evN (fun _ ih => evC F ih)
theorem evl_eq (F : Nat → Option CF) : ∀ n, evl F n = ev F false n
  | 0 => rfl
  | n + 1 => by
    have : evl F (n + 1) = es (cs F (evl F n)) (evl F n) := rfl
    rw [this, evl_eq F n, cs_eq, ev_succ]
    funext c s
    exact es_eq _ _ c s
noncomputable def call (F : Nat → Option CF) (n : Nat) (f : FuncId) (vs : List AV) (m : T Slot) (k : Nat) : Option (AV × MS) := cs F (evl F n) f vs ⟨m, k, [], True⟩
theorem call_eq (F : Nat → Option CF) (n : Nat) (f : FuncId) (vs : List AV) (m : T Slot) (k : Nat) : call F n f vs m k = evCall F false [] n f vs m k := by
  unfold call evCall
  rw [cs_eq, evl_eq]
end Fa
end Ev
end Go.Proofs.Ytknlcieceghaiaa
