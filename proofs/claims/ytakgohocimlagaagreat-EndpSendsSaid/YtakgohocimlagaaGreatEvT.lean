/-
  An evaluator over plain data (20): the same functions in a form that the kernel reckons faster: small definitions, each with one match. Of no program. No condition.
-/
import Derived.Test.YtakgohocimlagaaGreatEvS
namespace Go.Proofs.YtakgohocimlagaaGreat
namespace Ev
variable [E : Inhabited EnvT]
namespace Fa
set_option linter.unusedVariables false
set_option linter.unusedSectionVars false
set_option linter.unusedSimpArgs false
variable {α β : Type}

/-! ### tries -/
noncomputable def gJ (l r : Nat → Option α) (k : Nat) : Option α := match Nat.mod k 2 with
  | 0 => l (Nat.div k 2)
  | _ + 1 => r (Nat.div k 2)
noncomputable def gI (v : Option α) (l r : Nat → Option α) (i : Nat) : Option α := Nat.rec (motive := fun _ => Option α) (v) (fun k _ => gJ l r k) i
noncomputable def tget (t : T α) : Nat → Option α := T.rec (fun _ => none) (fun _ v _ l r => gI v l r) t
theorem tget_eq (t : T α) : tget t = t.get := by
  induction t with
  | e => rfl
  | n l v r h1 h2 =>
    funext i
    have : tget (.n l v r) = gI v (tget l) (tget r) := rfl
    rw [this, h1, h2]
    cases i with
    | zero => rfl
    | succ k =>
      simp only [gI, gJ, T.get, show Nat.mod k 2 = k % 2 from rfl]
      cases k % 2 <;> rfl
noncomputable def sE (ih : T α → Nat → α → T α) (x : α) (k : Nat) : T α := match Nat.mod k 2 with
  | 0 => T.fl (ih .e (Nat.div k 2) x) none .e
  | _ + 1 => T.fr .e none (ih .e (Nat.div k 2) x)
noncomputable def sE0 (ih : T α → Nat → α → T α) (x : α) (i : Nat) : T α := Nat.rec (motive := fun _ => T α) (.n .e (some x) .e) (fun k _ => sE ih x k) i
noncomputable def sN (ih : T α → Nat → α → T α) (l : T α) (v : Option α) (r : T α) (x : α) (k : Nat) : T α := match Nat.mod k 2 with
  | 0 => T.fl (ih l (Nat.div k 2) x) v r
  | _ + 1 => T.fr l v (ih r (Nat.div k 2) x)
noncomputable def sN0 (ih : T α → Nat → α → T α) (l : T α) (v : Option α) (r : T α) (x : α) (i : Nat) : T α := Nat.rec (motive := fun _ => T α) (.n l (some x) r) (fun k _ => sN ih l v r x k) i
noncomputable def sT (ih : T α → Nat → α → T α) (t : T α) (i : Nat) (x : α) : T α := T.rec (motive := fun _ => T α) (sE0 ih x i) (fun l v r _ _ => sN0 ih l v r x i) t
noncomputable def tsetF (f : Nat) : T α → Nat → α → T α := Nat.rec (fun t _ _ => t) (fun _ ih => sT ih) f
noncomputable def tset (t : T α) (i : Nat) (x : α) : T α := tsetF (Nat.succ i) t i x
theorem tsetF_eq (f : Nat) : tsetF (α := α) f = T.setF f := by
  induction f with
  | zero => funext t i x; rfl
  | succ f ih =>
    funext t i x
    have : tsetF (α := α) (f + 1) = sT (tsetF f) := rfl
    rw [this, ih]
    cases t with
    | e =>
      cases i with
      | zero => rfl
      | succ k =>
        simp only [sT, sE0, sE, T.setF, show Nat.mod k 2 = k % 2 from rfl]
        cases k % 2 <;> rfl
    | n l v r =>
      cases i with
      | zero => rfl
      | succ k =>
        simp only [sT, sN0, sN, T.setF, show Nat.mod k 2 = k % 2 from rfl]
        cases k % 2 <;> rfl
theorem tset_eq (t : T α) (i : Nat) (x : α) : tset t i x = t.set i x := congrFun (congrFun (congrFun (tsetF_eq _) t) i) x

/-! ### temporaries -/
noncomputable def lk2 (b : Bool) (v : AV) (ih : Option AV) : Option AV := Bool.rec (motive := fun _ => Option AV) (ih) (some v) b
noncomputable def lk1 (p : Nat × AV) (t : Nat) (ih : Option AV) : Option AV := Prod.rec (motive := fun _ => Option AV) (fun k v => lk2 (Nat.beq k t) v ih) p
noncomputable def lk (t : Nat) (d : Option AV) (l : List (Nat × AV)) : Option AV := List.rec d (fun p _ ih => lk1 p t ih) l
noncomputable def gt (tm : TM) (t : Nat) : Option AV := TM.rec (motive := fun _ => Option AV) (fun b l => lk t (tget b t) l) tm
theorem lk_eq (t : Nat) (d : Option AV) (l : List (Nat × AV)) : lk t d l = (match TM.lk l t with | some v => some v | none => d) := by
  induction l with
  | nil => rfl
  | cons p r ih =>
    obtain ⟨k, v⟩ := p
    have : lk t d ((k, v) :: r) = lk2 (Nat.beq k t) v (lk t d r) := rfl
    rw [this, ih]
    simp only [TM.lk, lk2]
    cases Nat.beq k t <;> rfl
theorem gt_eq (tm : TM) (t : Nat) : gt tm t = tm.get t := by
  obtain ⟨b, l⟩ := tm
  show lk t (tget b t) l = _
  rw [lk_eq, tget_eq]; rfl
noncomputable def ga (tm : TM) (c : CA) : Option AV := CA.rec (motive := fun _ => Option AV) (fun n => gt tm n) (fun v => some v) (fun id => some (.ptr id 0)) c
theorem ga_eq (tm : TM) (c : CA) : ga tm c = getA tm c := by cases c <;> simp [ga, getA, gt_eq]
noncomputable def gs2 (a : AV) (r : Option (List AV)) : Option (List AV) := Option.rec (motive := fun _ => Option (List AV)) (none) (fun r => some (a :: r)) r
noncomputable def gs1 (o : Option AV) (r : Option (List AV)) : Option (List AV) := Option.rec (motive := fun _ => Option (List AV)) (none) (fun a => gs2 a r) o
noncomputable def gs (tm : TM) (cs : List CA) : Option (List AV) := List.rec (some []) (fun c _ ih => gs1 (ga tm c) ih) cs
theorem gs_eq (tm : TM) (cs : List CA) : gs tm cs = getAs tm cs := by
  induction cs with
  | nil => rfl
  | cons c r ih =>
    have : gs tm (c :: r) = gs1 (ga tm c) (gs tm r) := rfl
    rw [this, ih, ga_eq]
    simp only [getAs, gs1]
    cases getA tm c with
    | none => rfl
    | some a => simp only [gs2]; cases getAs tm r <;> rfl

/-! ### numbers -/
noncomputable def ki (a : IntKind) : Nat := IntKind.rec (motive := fun _ => Nat) (0) (1) (2) (3) (4) (5) (6) (7) a
theorem ki_eq (a b : IntKind) : Nat.beq (ki a) (ki b) = decide (a = b) := by cases a <;> cases b <;> rfl
noncomputable def um (m : Nat) (n : Int) : Nat := Int.rec (motive := fun _ => Nat) (fun a => Nat.mod a m) (fun a => Nat.sub (Nat.sub m 1) (Nat.mod a m)) n
theorem um_eq (m : Nat) (n : Int) : um m n = umod n m := by cases n <;> rfl
noncomputable def aw2 (b : Bool) (m1 r : Nat) : Int := Bool.rec (motive := fun _ => Int) (.ofNat r) (.negSucc (Nat.sub m1 r)) b
noncomputable def aw1 (h m1 r : Nat) : Int := aw2 (Nat.ble h r) m1 r
noncomputable def aw (k : IntKind) (n : Int) : Int := IntKind.rec (motive := fun _ => Int) (fN (um 256 n) (aw1 128 255)) (fN (um 65536 n) (aw1 32768 65535)) (fN (um 4294967296 n) (aw1 2147483648 4294967295)) (fN (um 18446744073709551616 n) (aw1 9223372036854775808 18446744073709551615)) (.ofNat (um 256 n)) (.ofNat (um 65536 n)) (.ofNat (um 4294967296 n)) (.ofNat (um 18446744073709551616 n)) k
theorem aw_eq (k : IntKind) (n : Int) : aw k n = wr false k n := by
  have h : ∀ (h m r : Nat), aw1 h m r = (match Nat.ble h r with | true => Int.negSucc (m - r) | false => Int.ofNat r) := fun h m r => by
    unfold aw1 aw2; cases Nat.ble h r <;> rfl
  cases k <;> simp only [aw, wr, awrap, um_eq, fN_eq, h] <;> rfl
noncomputable def ib2 (m : Nat) (b : Int) : Bool := Int.rec (motive := fun _ => Bool) (fun n => Nat.beq m n) (fun _ => false) b
noncomputable def ib3 (m : Nat) (b : Int) : Bool := Int.rec (motive := fun _ => Bool) (fun _ => false) (fun n => Nat.beq m n) b
noncomputable def ib (a b : Int) : Bool := Int.rec (motive := fun _ => Bool) (fun m => ib2 m b) (fun m => ib3 m b) a
theorem nb (a b : Nat) : Nat.beq a b = decide (a = b) := by
  cases h : Nat.beq a b with
  | true => simp [Nat.eq_of_beq_eq_true h]
  | false => simp [Nat.ne_of_beq_eq_false h]
theorem ib_eq (a b : Int) : ib a b = (a == b) := by
  have e : (a == b) = decide (a = b) := by rw [Bool.eq_iff_iff]; simp
  rw [e]
  cases a <;> cases b <;> simp only [ib, ib2, ib3, nb] <;> rw [Bool.eq_iff_iff] <;> simp <;> omega
noncomputable def il2 (m : Nat) (b : Int) : Bool := Int.rec (motive := fun _ => Bool) (fun n => Nat.ble (Nat.succ m) n) (fun _ => false) b
noncomputable def il3 (m : Nat) (b : Int) : Bool := Int.rec (motive := fun _ => Bool) (fun _ => true) (fun n => Nat.ble (Nat.succ n) m) b
noncomputable def il (a b : Int) : Bool := Int.rec (motive := fun _ => Bool) (fun m => il2 m b) (fun m => il3 m b) a
theorem nl (a b : Nat) : Nat.ble a b = decide (a ≤ b) := by
  cases h : Nat.ble a b with
  | true => simp [Nat.le_of_ble_eq_true h]
  | false => have : ¬ a ≤ b := fun hle => by have := Nat.ble_eq_true_of_le hle; rw [h] at this; cases this
             simp [this]
theorem il_eq (a b : Int) : il a b = decide (a < b) := by
  cases a <;> cases b <;> simp only [il, il2, il3, nl] <;> rw [Bool.eq_iff_iff] <;> simp <;> omega
noncomputable def nt (b : Bool) : Bool := Bool.rec (motive := fun _ => Bool) (true) (false) b
theorem nt_eq (b : Bool) : nt b = !b := by cases b <;> rfl
noncomputable def an (a b : Bool) : Bool := Bool.rec (motive := fun _ => Bool) (false) (b) a
theorem an_eq (a b : Bool) : an a b = (a && b) := by cases a <;> rfl

abbrev RQ := Option (AV × Bool)
noncomputable def oI (k : IntKind) (n : Int) : RQ := some (.int k n, true)
noncomputable def oB (b : Bool) : RQ := some (.bool b, true)
noncomputable def bI (op : BinOp) (k : IntKind) (a b : Int) : RQ := BinOp.rec (motive := fun _ => RQ) (oI k (aw k (Int.add a b))) (oI k (aw k (Int.sub a b))) (oI k (aw k (Int.mul a b))) (binI false (BinOp.quo) k a b) (binI false (BinOp.rem) k a b) (binI false (BinOp.and) k a b) (binI false (BinOp.or) k a b) (binI false (BinOp.xor) k a b) (binI false (BinOp.shl) k a b) (binI false (BinOp.shr) k a b) (binI false (BinOp.andNot) k a b) (oB (ib a b)) (oB (nt (ib a b))) (oB (il a b)) (oB (nt (il b a))) (oB (il b a)) (oB (nt (il a b))) op
theorem bI_eq (op : BinOp) (k : IntKind) (a b : Int) : bI op k a b = binI false op k a b := by
  have h1 : ∀ x y : Int, (!decide (y < x)) = decide (x ≤ y) := fun x y => by rw [Bool.eq_iff_iff]; simp
  cases op <;> simp only [bI, binI, oI, oB, aw_eq, ib_eq, il_eq, nt_eq, h1] <;> rfl
noncomputable def bK (q : Bool) (op : BinOp) (k : IntKind) (a b : Int) : RQ := Bool.rec (motive := fun _ => RQ) (none) (bI op k a b) q
noncomputable def bS (op : BinOp) (k : IntKind) (a : Int) (k' : IntKind) (b : Int) : RQ := BinOp.rec (motive := fun _ => RQ) (bK (Nat.beq (ki k) (ki k')) (BinOp.add) k a b) (bK (Nat.beq (ki k) (ki k')) (BinOp.sub) k a b) (bK (Nat.beq (ki k) (ki k')) (BinOp.mul) k a b) (bK (Nat.beq (ki k) (ki k')) (BinOp.quo) k a b) (bK (Nat.beq (ki k) (ki k')) (BinOp.rem) k a b) (bK (Nat.beq (ki k) (ki k')) (BinOp.and) k a b) (bK (Nat.beq (ki k) (ki k')) (BinOp.or) k a b) (bK (Nat.beq (ki k) (ki k')) (BinOp.xor) k a b) (some (.int k (wr false k (a * p2 (Nat.min b.toNat k.bits))), decide (0 ≤ b))) (some (.int k (a.fdiv (p2 (Nat.min b.toNat k.bits))), decide (0 ≤ b))) (bK (Nat.beq (ki k) (ki k')) (BinOp.andNot) k a b) (bK (Nat.beq (ki k) (ki k')) (BinOp.eql) k a b) (bK (Nat.beq (ki k) (ki k')) (BinOp.neq) k a b) (bK (Nat.beq (ki k) (ki k')) (BinOp.lss) k a b) (bK (Nat.beq (ki k) (ki k')) (BinOp.leq) k a b) (bK (Nat.beq (ki k) (ki k')) (BinOp.gtr) k a b) (bK (Nat.beq (ki k) (ki k')) (BinOp.geq) k a b) op
noncomputable def bN (op : BinOp) (c : EC) (k : IntKind) (a : Int) (y : AV) : RQ := AV.rec (motive_1 := fun _ => RQ) (motive_2 := fun _ => Bool) (fun q0 => binK false op c (AV.int k a) (AV.bool q0)) (fun k' b => bS op k a k' b) (fun q0 => binK false op c (AV.int k a) (AV.str q0)) (binK false op c (AV.int k a) (AV.nilp)) (fun q0 q1 => binK false op c (AV.int k a) (AV.ptr q0 q1)) (binK false op c (AV.int k a) (AV.nils)) (fun q0 q1 q2 q3 => binK false op c (AV.int k a) (AV.sl q0 q1 q2 q3)) (binK false op c (AV.int k a) (AV.nilm)) (fun q0 => binK false op c (AV.int k a) (AV.map q0)) (fun q0 q1 q2 _ _ => binK false op c (AV.int k a) (AV.fn q0 q1 q2)) (fun q0 => binK false op c (AV.int k a) (AV.yield q0)) (binK false op c (AV.int k a) (AV.nilf)) (fun q0 q1 _ => binK false op c (AV.int k a) (AV.iface q0 q1)) (binK false op c (AV.int k a) (AV.nili)) (fun q0 _ => binK false op c (AV.int k a) (AV.agg q0)) (fun q0 _ => binK false op c (AV.int k a) (AV.tup q0)) (fun q0 q1 => binK false op c (AV.int k a) (AV.sx q0 q1)) (fun q0 => binK false op c (AV.int k a) (AV.ov q0)) true (fun _ _ _ _ => true) y
noncomputable def bX (op : BinOp) (c : EC) (x y : AV) : RQ := AV.rec (motive_1 := fun _ => RQ) (motive_2 := fun _ => Bool) (fun q0 => binK false op c (AV.bool q0) y) (fun k a => bN op c k a y) (fun q0 => binK false op c (AV.str q0) y) (binK false op c (AV.nilp) y) (fun q0 q1 => binK false op c (AV.ptr q0 q1) y) (binK false op c (AV.nils) y) (fun q0 q1 q2 q3 => binK false op c (AV.sl q0 q1 q2 q3) y) (binK false op c (AV.nilm) y) (fun q0 => binK false op c (AV.map q0) y) (fun q0 q1 q2 _ _ => binK false op c (AV.fn q0 q1 q2) y) (fun q0 => binK false op c (AV.yield q0) y) (binK false op c (AV.nilf) y) (fun q0 q1 _ => binK false op c (AV.iface q0 q1) y) (binK false op c (AV.nili) y) (fun q0 _ => binK false op c (AV.agg q0) y) (fun q0 _ => binK false op c (AV.tup q0) y) (fun q0 q1 => binK false op c (AV.sx q0 q1) y) (fun q0 => binK false op c (AV.ov q0) y) true (fun _ _ _ _ => true) x
theorem bX_eq (op : BinOp) (c : EC) (x y : AV) : bX op c x y = binK false op c x y := by
  cases x <;> try rfl
  cases y <;> try rfl
  rename_i k a k' b
  simp only [bX, bN, binK]
  cases op <;> simp only [bS, bK, ki_eq, bI_eq] <;> (try rfl) <;> (by_cases h : k = k' <;> simp [h])

/-! ### kinds of arguments -/
noncomputable def a1b (x : AV) (r : List AV) (K : AV → Option β) : Option β := List.rec (motive := fun _ => Option β) (K x) (fun _ _ _ => none) r
noncomputable def a1 (vs : List AV) (K : AV → Option β) : Option β := List.rec (motive := fun _ => Option β) (none) (fun x r _ => a1b x r K) vs
noncomputable def a2 (vs : List AV) (K : AV → AV → Option β) : Option β := List.rec (motive := fun _ => Option β) (none) (fun x r _ => a1 r (K x)) vs
noncomputable def kMv (x : AV) : RQ := some (x, true)
noncomputable def kNeg (x : AV) : RQ := AV.rec (motive_1 := fun _ => RQ) (motive_2 := fun _ => Bool) (fun _ => none) (fun k n => oI k (aw k (Int.sub 0 n))) (fun _ => none) (none) (fun _ _ => none) (none) (fun _ _ _ _ => none) (none) (fun _ => none) (fun _ _ _ _ _ => none) (fun _ => none) (none) (fun _ _ _ => none) (none) (fun _ _ => none) (fun _ _ => none) (fun k e => some (mkS k (.o .sub k (.c 0) e), true)) (fun _ => none) true (fun _ _ _ _ => true) x
noncomputable def kNot (x : AV) : RQ := AV.rec (motive_1 := fun _ => RQ) (motive_2 := fun _ => Bool) (fun b => oB (nt b)) (fun _ _ => none) (fun _ => none) (none) (fun _ _ => none) (none) (fun _ _ _ _ => none) (none) (fun _ => none) (fun _ _ _ _ _ => none) (fun _ => none) (none) (fun _ _ _ => none) (none) (fun _ _ => none) (fun _ _ => none) (fun _ _ => none) (fun _ => none) true (fun _ _ _ _ => true) x
noncomputable def kConv (k : IntKind) (x : AV) : RQ := AV.rec (motive_1 := fun _ => RQ) (motive_2 := fun _ => Bool) (fun _ => none) (fun _ n => oI k (aw k n)) (fun _ => none) (none) (fun _ _ => none) (none) (fun _ _ _ _ => none) (none) (fun _ => none) (fun _ _ _ _ _ => none) (fun _ => none) (none) (fun _ _ _ => none) (none) (fun _ _ => none) (fun _ _ => none) (fun _ e => some (mkS k (.w k e), true)) (fun _ => none) true (fun _ _ _ _ => true) x
noncomputable def kMkI (t : TypeId) (x : AV) : RQ := some (.iface t x, true)
noncomputable def kFa (o : Nat) (x : AV) : RQ := AV.rec (motive_1 := fun _ => RQ) (motive_2 := fun _ => Bool) (fun _ => none) (fun _ _ => none) (fun _ => none) (none) (fun id off => some (.ptr id (Nat.add off o), true)) (none) (fun _ _ _ _ => none) (none) (fun _ => none) (fun _ _ _ _ _ => none) (fun _ => none) (none) (fun _ _ _ => none) (none) (fun _ _ => none) (fun _ _ => none) (fun _ _ => none) (fun _ => none) true (fun _ _ _ _ => true) x
noncomputable def nth (l : List α) : Nat → Option α := List.rec (fun _ => none) (fun x _ ih i => Nat.rec (some x) (fun k _ => ih k) i) l
theorem nth_eq (l : List α) : ∀ i, nth l i = l[i]? := by
  induction l with
  | nil => intro i; rfl
  | cons x r ih =>
    intro i
    cases i with
    | zero => rfl
    | succ k => rw [List.getElem?_cons_succ, ← ih k]; rfl
noncomputable def kO (o : Option AV) : RQ := Option.rec (motive := fun _ => RQ) (none) (fun v => some (v, true)) o
noncomputable def kFld1 (off : Nat) (cs : List AV) : RQ := kO (nth cs off)
noncomputable def kFld (off : Nat) (x : AV) : RQ := AV.rec (motive_1 := fun _ => RQ) (motive_2 := fun _ => Bool) (fun _ => none) (fun _ _ => none) (fun _ => none) (none) (fun _ _ => none) (none) (fun _ _ _ _ => none) (none) (fun _ => none) (fun _ _ _ _ _ => none) (fun _ => none) (none) (fun _ _ _ => none) (none) (fun cs _ => kFld1 off cs) (fun _ _ => none) (fun _ _ => none) (fun _ => none) true (fun _ _ _ _ => true) x
noncomputable def kExt (i : Nat) (x : AV) : RQ := AV.rec (motive_1 := fun _ => RQ) (motive_2 := fun _ => Bool) (fun _ => none) (fun _ _ => none) (fun _ => none) (none) (fun _ _ => none) (none) (fun _ _ _ _ => none) (none) (fun _ => none) (fun _ _ _ _ _ => none) (fun _ => none) (none) (fun _ _ _ => none) (none) (fun _ _ => none) (fun vs _ => kO (nth vs i)) (fun _ _ => none) (fun _ => none) true (fun _ _ _ _ => true) x
noncomputable def inR (n : Nat) (i : Int) : Bool := Int.rec (motive := fun _ => Bool) (fun i => Nat.ble (Nat.succ i) n) (fun _ => false) i
theorem inR_eq (n : Nat) (i : Int) : inR n i = (decide (0 ≤ i) && decide (i < (n : Int))) := by
  cases i <;> simp only [inR, nl] <;> rw [Bool.eq_iff_iff] <;> simp <;> omega
noncomputable def kIaS1 (z id off len : Nat) (i : AV) : RQ := AV.rec (motive_1 := fun _ => RQ) (motive_2 := fun _ => Bool) (fun _ => none) (fun _ i => some (.ptr id (Nat.add off (Nat.mul i.toNat z)), inR len i)) (fun _ => none) (none) (fun _ _ => none) (none) (fun _ _ _ _ => none) (none) (fun _ => none) (fun _ _ _ _ _ => none) (fun _ => none) (none) (fun _ _ _ => none) (none) (fun _ _ => none) (fun _ _ => none) (fun _ _ => none) (fun _ => none) true (fun _ _ _ _ => true) i
noncomputable def kIaS (z : Nat) (x i : AV) : RQ := AV.rec (motive_1 := fun _ => RQ) (motive_2 := fun _ => Bool) (fun _ => none) (fun _ _ => none) (fun _ => none) (none) (fun _ _ => none) (none) (fun id off len _ => kIaS1 z id off len i) (none) (fun _ => none) (fun _ _ _ _ _ => none) (fun _ => none) (none) (fun _ _ _ => none) (none) (fun _ _ => none) (fun _ _ => none) (fun _ _ => none) (fun _ => none) true (fun _ _ _ _ => true) x
noncomputable def kIaA (n z : Nat) (x i : AV) : RQ := AV.rec (motive_1 := fun _ => RQ) (motive_2 := fun _ => Bool) (fun _ => none) (fun _ _ => none) (fun _ => none) (none) (fun id off => kIaS1 z id off n i) (none) (fun _ _ _ _ => none) (none) (fun _ => none) (fun _ _ _ _ _ => none) (fun _ => none) (none) (fun _ _ _ => none) (none) (fun _ _ => none) (fun _ _ => none) (fun _ _ => none) (fun _ => none) true (fun _ _ _ _ => true) x
noncomputable def kLenL (x : AV) : RQ := AV.rec (motive_1 := fun _ => RQ) (motive_2 := fun _ => Bool) (fun _ => none) (fun _ _ => none) (fun _ => none) (none) (fun _ _ => none) (oI .i64 (.ofNat 0)) (fun _ _ len _ => oI .i64 (.ofNat len)) (none) (fun _ => none) (fun _ _ _ _ _ => none) (fun _ => none) (none) (fun _ _ _ => none) (none) (fun _ _ => none) (fun _ _ => none) (fun _ _ => none) (fun _ => none) true (fun _ _ _ _ => true) x
noncomputable def xK (k : PK) (vs : List AV) : RQ := PK.rec (motive := fun _ => RQ) (a1 vs kMv) (execK false (PK.nilck) vs) (fun op c => a2 vs (bX op c)) (a1 vs kNeg) (a1 vs kNot) (execK false (PK.xor) vs) (fun k => a1 vs (kConv k)) (execK false (PK.convS) vs) (fun t => a1 vs (kMkI t)) (fun q0 q1 => execK false (PK.mkF q0 q1) vs) (fun q0 q1 => execK false (PK.slS q0 q1) vs) (fun q0 q1 q2 => execK false (PK.slL q0 q1 q2) vs) (fun q0 q1 q2 q3 => execK false (PK.slA q0 q1 q2 q3) vs) (fun q0 q1 => execK false (PK.slM q0 q1) vs) (fun o => a1 vs (kFa o)) (fun off sz agg => Bool.rec (a1 vs (kFld off)) (execK false (.fld off sz true) vs) agg) (fun z => a2 vs (kIaS z)) (fun n z => a2 vs (kIaA n z)) (execK false (PK.ixS) vs) (fun q0 q1 q2 => execK false (PK.ixA q0 q1 q2) vs) (fun i => a1 vs (kExt i)) (execK false (PK.lenS) vs) (a1 vs kLenL) (fun q0 => execK false (PK.lenA q0) vs) (execK false (PK.cap) vs) (execK false (PK.min) vs) (execK false (PK.max) vs) (fun q0 q1 => execK false (PK.build q0 q1) vs) k
theorem a1_eq {vs : List AV} {K : AV → Option β} : a1 vs K = (match vs with | [x] => K x | _ => none) := by
  cases vs with
  | nil => rfl
  | cons x r => cases r <;> rfl
theorem xK_eq (k : PK) (vs : List AV) : xK k vs = execK false k vs := by
  have h1 : ∀ (o : Option AV), kO o = (match o with | some v => some (v, true) | none => none) := fun o => by cases o <;> rfl
  cases k <;> try rfl
  case mv => rcases vs with _ | ⟨x, _ | ⟨y, r⟩⟩ <;> rfl
  case bin => rcases vs with _ | ⟨x, _ | ⟨y, _ | ⟨z, r⟩⟩⟩ <;> first | rfl | exact bX_eq _ _ _ _
  case neg => rcases vs with _ | ⟨x, _ | ⟨y, r⟩⟩ <;> first | rfl | (cases x <;> first | rfl | (simp only [xK, a1, a1b, kNeg, execK, oI, aw_eq]; rfl))
  case not => rcases vs with _ | ⟨x, _ | ⟨y, r⟩⟩ <;> first | rfl | (cases x <;> first | rfl | (simp only [xK, a1, a1b, kNot, execK, oB, nt_eq]))
  case conv => rcases vs with _ | ⟨x, _ | ⟨y, r⟩⟩ <;> first | rfl | (cases x <;> first | rfl | (simp only [xK, a1, a1b, kConv, execK, oI, aw_eq]))
  case mkI => rcases vs with _ | ⟨x, _ | ⟨y, r⟩⟩ <;> rfl
  case fa => rcases vs with _ | ⟨x, _ | ⟨y, r⟩⟩ <;> first | rfl | (cases x <;> rfl)
  case fld off sz agg =>
    cases agg with
    | true => rfl
    | false => rcases vs with _ | ⟨x, _ | ⟨y, r⟩⟩ <;> first | rfl | (cases x <;> first | rfl | (simp only [xK, a1, a1b, kFld, kFld1, nth_eq, execK, h1]; rfl))
  case ext => rcases vs with _ | ⟨x, _ | ⟨y, r⟩⟩ <;> first | rfl | (cases x <;> first | rfl | (simp only [xK, a1, a1b, kExt, nth_eq, execK, h1]; rfl))
  case iaS => rcases vs with _ | ⟨x, _ | ⟨y, _ | ⟨z, r⟩⟩⟩ <;> first | rfl | (cases x <;> first | rfl | (cases y <;> first | rfl | (simp only [xK, a2, a1, a1b, kIaS, kIaS1, execK, inR_eq]; rfl)))
  case iaA => rcases vs with _ | ⟨x, _ | ⟨y, _ | ⟨z, r⟩⟩⟩ <;> first | rfl | (cases x <;> first | rfl | (cases y <;> first | rfl | (simp only [xK, a2, a1, a1b, kIaA, kIaS1, execK, inR_eq]; rfl)))
  case lenL => rcases vs with _ | ⟨x, _ | ⟨y, r⟩⟩ <;> first | rfl | (cases x <;> rfl)

/-! ### operations -/
noncomputable def fqB (b : Bool) (K : AV → β) : β := Bool.rec (motive := fun _ => β) (K (.bool false)) (K (.bool true)) b
noncomputable def fqN (k : IntKind) (n : Nat) (K : AV → β) : β := Nat.rec (motive := fun _ => β) (K (.int k (.ofNat 0))) (fun m _ => K (.int k (.ofNat (Nat.succ m)))) n
noncomputable def fqM (k : IntKind) (n : Nat) (K : AV → β) : β := Nat.rec (motive := fun _ => β) (K (.int k (.negSucc 0))) (fun m _ => K (.int k (.negSucc (Nat.succ m)))) n
noncomputable def fqI (k : IntKind) (n : Int) (K : AV → β) : β := Int.rec (motive := fun _ => β) (fun m => fqN k m K) (fun m => fqM k m K) n
noncomputable def fqP1 (id : Nat) (K : AV → β) (off : Nat) : β := K (.ptr id off)
noncomputable def fqP (id off : Nat) (K : AV → β) : β := fN off (fqP1 id K)
noncomputable def fq (v : AV) (K : AV → β) : β := AV.rec (motive_1 := fun _ => β) (motive_2 := fun _ => Bool) (fun b => fqB b K) (fun k n => fqI k n K) (fun q0 => fV false (AV.str q0) K) (fV false (AV.nilp) K) (fun id off => fqP id off K) (fV false (AV.nils) K) (fun q0 q1 q2 q3 => fV false (AV.sl q0 q1 q2 q3) K) (fV false (AV.nilm) K) (fun q0 => fV false (AV.map q0) K) (fun q0 q1 q2 _ _ => fV false (AV.fn q0 q1 q2) K) (fun q0 => fV false (AV.yield q0) K) (fV false (AV.nilf) K) (fun q0 q1 _ => fV false (AV.iface q0 q1) K) (fV false (AV.nili) K) (fun q0 _ => fV false (AV.agg q0) K) (fun q0 _ => fV false (AV.tup q0) K) (fun q0 q1 => fV false (AV.sx q0 q1) K) (fun q0 => fV false (AV.ov q0) K) true (fun _ _ _ _ => true) v
theorem fq_eq (v : AV) (K : AV → β) : fq v K = K v := by
  cases v with
  | bool b => cases b <;> rfl
  | int k n => cases n <;> rename_i m <;> cases m <;> rfl
  | ptr id off => simp [fq, fqP, fqP1]
  | _ => simp [fq]

noncomputable def put1 (tm : TM) (t : Nat) (s : MS) (v : AV) : Option CS := TM.rec (motive := fun _ => Option CS) (fun b l => some ⟨⟨b, (t, v) :: l⟩, s⟩) tm
noncomputable def put0 (d : Option Nat) (tm : TM) (s : MS) (v : AV) : Option CS := Option.rec (motive := fun _ => Option CS) (some ⟨tm, s⟩) (fun t => put1 tm t s v) d
theorem put0_eq (d : Option Nat) (tm : TM) (s : MS) (v : AV) : put0 d tm s v = some ⟨putT tm d v, s⟩ := by
  cases d <;> rfl
noncomputable def wS1 (m : T Slot) (hs : List (Nat × Bool)) (ok : Prop) (K : MS → β) (n : Nat) : β := K ⟨m, n, hs, ok⟩
noncomputable def wS0 (hs : List (Nat × Bool)) (ok : Prop) (n : Nat) (K : MS → β) (m : T Slot) : β := fN n (wS1 m hs ok K)
noncomputable def wS (s : MS) (m : T Slot) (n : Nat) (K : MS → β) : β := MS.rec (motive := fun _ => β) (fun _ _ hs ok => T.seq m (wS0 hs ok n K)) s
theorem wS_eq (s : MS) (m : T Slot) (n : Nat) (K : MS → β) : wS s m n K = K { s with mem := m, n := n } := by
  simp [wS, wS0, wS1]
noncomputable def fin (d : Option Nat) (tm : TM) (v : AV) (s : MS) : Option CS := fq v (put0 d tm s)
theorem fin_eq (d : Option Nat) (tm : TM) (v : AV) (s : MS) : fin d tm v s = some ⟨putT tm d v, s⟩ := by simp only [fin, fq_eq, put0_eq]
noncomputable def done (d : Option Nat) (tm : TM) (r : Option (AV × MS)) : Option CS := Option.rec (motive := fun _ => Option CS) (none) (fun p0 => Prod.rec (motive := fun _ => Option CS) (fun v s => some ⟨putT tm d v, s⟩) p0) r

noncomputable def xP2 (d : Option Nat) (tm : TM) (s : MS) (v : AV) (q : Bool) : Option CS := Bool.rec (motive := fun _ => Option CS) (none) (fin d tm v s) q
noncomputable def xP1 (d : Option Nat) (tm : TM) (s : MS) (p : AV × Bool) : Option CS := Prod.rec (motive := fun _ => Option CS) (fun v q => xP2 d tm s v q) p
noncomputable def xP (d : Option Nat) (tm : TM) (s : MS) (r : RQ) : Option CS := Option.rec (motive := fun _ => Option CS) (none) (fun p => xP1 d tm s p) r
noncomputable def xPa (d : Option Nat) (tm : TM) (s : MS) (k : PK) (vs : Option (List AV)) : Option CS := Option.rec (motive := fun _ => Option CS) (none) (fun vs => xP d tm s (xK k vs)) vs
noncomputable def xO (d : Option Nat) (tm : TM) (s : MS) (r : Option AV) : Option CS := Option.rec (motive := fun _ => Option CS) (none) (fun v => fin d tm v s) r
noncomputable def xPc (d : Option Nat) (tm : TM) (s : MS) (a b : CA) (c : Bool) : Option CS := Bool.rec (motive := fun _ => Option CS) (xO d tm s (ga tm b)) (xO d tm s (ga tm a)) c
noncomputable def xPb (d : Option Nat) (tm : TM) (s : MS) (a b : CA) (v : AV) : Option CS := AV.rec (motive_1 := fun _ => Option CS) (motive_2 := fun _ => Bool) (fun c => xPc d tm s a b c) (fun _ _ => none) (fun _ => none) (none) (fun _ _ => none) (none) (fun _ _ _ _ => none) (none) (fun _ => none) (fun _ _ _ _ _ => none) (fun _ => none) (none) (fun _ _ _ => none) (none) (fun _ _ => none) (fun _ _ => none) (fun _ _ => none) (fun _ => none) true (fun _ _ _ _ => true) v
noncomputable def xPk (d : Option Nat) (tm : TM) (s : MS) (a b : CA) (v : Option AV) : Option CS := Option.rec (motive := fun _ => Option CS) (none) (fun v => xPb d tm s a b v) v
noncomputable def ldZ (sz : Nat) (agg : Bool) (off : Nat) (cs : List AV) (ext : Bool) : Option AV := Bool.rec (motive := fun _ => Option AV) (nth cs off) (execL (.ld sz true) [.ptr 0 off] (.row cs ext)) agg
noncomputable def ldY (sz : Nat) (agg : Bool) (off : Nat) (o : AO) : Option AV := AO.rec (motive := fun _ => Option AV) (fun cs e => ldZ sz agg off cs e) (fun _ _ => none) (none) o
noncomputable def ldX (sz : Nat) (agg : Bool) (o : AO) (x : AV) : Option AV := AV.rec (motive_1 := fun _ => Option AV) (motive_2 := fun _ => Bool) (fun _ => none) (fun _ _ => none) (fun _ => none) (none) (fun _ off => ldY sz agg off o) (none) (fun _ _ _ _ => none) (none) (fun _ => none) (fun _ _ _ _ _ => none) (fun _ => none) (none) (fun _ _ _ => none) (none) (fun _ _ => none) (fun _ _ => none) (fun _ _ => none) (fun _ => none) true (fun _ _ _ _ => true) x
noncomputable def xL (k : LK) (vs : List AV) (o : AO) : Option AV := LK.rec (motive := fun _ => Option AV) (fun sz agg => a1 vs (ldX sz agg o)) (execL (LK.toStr) vs o) (execL (LK.lenM) vs o) (fun q0 q1 q2 => execL (LK.look q0 q1 q2) vs o) k
theorem xL_eq (k : LK) (vs : List AV) (o : AO) : xL k vs o = execL k vs o := by
  cases k <;> try rfl
  rename_i sz agg
  rcases vs with _ | ⟨x, _ | ⟨y, r⟩⟩ <;> first | rfl | (cases x <;> first | rfl | (cases o <;> first | rfl | (cases agg <;> first | rfl | (simp only [xL, a1, a1b, ldX, ldY, ldZ, nth_eq, execL]))))
noncomputable def tgP (x : AV) : Option Nat := AV.rec (motive_1 := fun _ => Option Nat) (motive_2 := fun _ => Bool) (fun _ => none) (fun _ _ => none) (fun _ => none) (none) (fun id _ => some id) (none) (fun _ _ _ _ => none) (none) (fun _ => none) (fun _ _ _ _ _ => none) (fun _ => none) (none) (fun _ _ _ => none) (none) (fun _ _ => none) (fun _ _ => none) (fun _ _ => none) (fun _ => none) true (fun _ _ _ _ => true) x
noncomputable def tg (k : LK) (vs : List AV) : Option Nat := LK.rec (motive := fun _ => Option Nat) (fun _ _ => a1 vs tgP) (tgt (LK.toStr) vs) (tgt (LK.lenM) vs) (fun q0 q1 q2 => tgt (LK.look q0 q1 q2) vs) k
theorem tg_eq (k : LK) (vs : List AV) : tg k vs = tgt k vs := by
  cases k <;> try rfl
  rcases vs with _ | ⟨x, _ | ⟨y, r⟩⟩ <;> first | rfl | (cases x <;> rfl)
noncomputable def xLs (d : Option Nat) (tm : TM) (s : MS) (k : LK) (vs : List AV) (sl : Option Slot) : Option CS := Option.rec (motive := fun _ => Option CS) (none) (fun p0 => Slot.rec (motive := fun _ => Option CS) (fun o _ _ => xO d tm s (xL k vs o)) p0) sl
noncomputable def xL1 (d : Option Nat) (tm : TM) (s : MS) (k : LK) (vs : List AV) (id : Option Nat) : Option CS := Option.rec (motive := fun _ => Option CS) (xO d tm s (xL k vs .dead)) (fun id => xLs d tm s k vs (tget s.mem id)) id
noncomputable def xLa (d : Option Nat) (tm : TM) (s : MS) (k : LK) (vs : Option (List AV)) : Option CS := Option.rec (motive := fun _ => Option CS) (none) (fun vs => xL1 d tm s k vs (tg k vs)) vs
noncomputable def xA2 (d : Option Nat) (tm : TM) (s : MS) (o : AO) (v : AV) (q : Bool) : Option CS := Bool.rec (motive := fun _ => Option CS) (none) (wS s (tset s.mem s.n ⟨o, s.n, true⟩) (Nat.succ s.n) (fin d tm v)) q
noncomputable def xA1 (d : Option Nat) (tm : TM) (s : MS) (r : Option (AO × Nat × AV × Bool)) : Option CS := Option.rec (motive := fun _ => Option CS) (none) (fun p0 => Prod.rec (motive := fun _ => Option CS) (fun o p1 => Prod.rec (motive := fun _ => Option CS) (fun _ p2 => Prod.rec (motive := fun _ => Option CS) (fun v q => xA2 d tm s o v q) p2) p1) p0) r
noncomputable def xAa (d : Option Nat) (tm : TM) (s : MS) (k : AK) (vs : Option (List AV)) : Option CS := Option.rec (motive := fun _ => Option CS) (none) (fun vs => xA1 d tm s (execA k vs s.n)) vs
abbrev RE := Option (AV × T Slot × Nat × Bool)
noncomputable def stW (m : T Slot) (n id : Nat) (ext : Bool) (cs : List AV) : RE := some (.tup [], tset m id ⟨.row cs ext, n, true⟩, Nat.succ n, true)
noncomputable def stZ (sz : Nat) (m : T Slot) (n id off : Nat) (v : AV) (cs : List AV) (ext : Bool) : RE := match an (an (Nat.beq (cellsA v).length sz) (Nat.ble (off + sz) cs.length)) (scals (cellsA v)) with
  | true => fL (overL cs off (cellsA v)) (stW m n id ext)
  | false => none
noncomputable def stO (sz : Nat) (m : T Slot) (n id off : Nat) (v : AV) (o : AO) : RE := AO.rec (motive := fun _ => RE) (fun cs ext => stZ sz m n id off v cs ext) (fun _ _ => none) (none) o
noncomputable def stM (sz : Nat) (m : T Slot) (n id off : Nat) (v : AV) (o : AO) (mu : Bool) : RE := Bool.rec (motive := fun _ => RE) (none) (stO sz m n id off v o) mu
noncomputable def stS (sz : Nat) (m : T Slot) (n id off : Nat) (v : AV) (s : Option Slot) : RE := Option.rec (motive := fun _ => RE) (none) (fun p0 => Slot.rec (motive := fun _ => RE) (fun o _ mu => stM sz m n id off v o mu) p0) s
noncomputable def stP (sz : Nat) (m : T Slot) (n : Nat) (p v : AV) : RE := AV.rec (motive_1 := fun _ => RE) (motive_2 := fun _ => Bool) (fun _ => none) (fun _ _ => none) (fun _ => none) (none) (fun id off => stS sz m n id off v (tget m id)) (none) (fun _ _ _ _ => none) (none) (fun _ => none) (fun _ _ _ _ _ => none) (fun _ => none) (none) (fun _ _ _ => none) (none) (fun _ _ => none) (fun _ _ => none) (fun _ _ => none) (fun _ => none) true (fun _ _ _ _ => true) p
noncomputable def xE (k : EK) (vs : List AV) (m : T Slot) (n : Nat) : RE := EK.rec (motive := fun _ => RE) (fun sz => a2 vs (stP sz m n)) (fun q0 q1 q2 q3 => execE (EK.app q0 q1 q2 q3) vs m n) (fun q0 => execE (EK.cpy q0) vs m n) (fun q0 => execE (EK.put q0) vs m n) (fun q0 => execE (EK.del q0) vs m n) k
theorem xE_eq (k : EK) (vs : List AV) (m : T Slot) (n : Nat) : xE k vs m n = execE k vs m n := by
  cases k <;> try rfl
  rcases vs with _ | ⟨x, _ | ⟨y, _ | ⟨z, r⟩⟩⟩ <;> first | rfl | (cases x <;> rfl) | skip
  cases x <;> try rfl
  rename_i sz id off
  simp only [xE, a2, a1, a1b, stP, tget_eq, execE]
  cases hm : m.get id with
  | none => rfl
  | some sl =>
    obtain ⟨o, st, mu⟩ := sl
    cases o <;> cases mu <;> first | rfl | skip
    simp only [stS, stM, stO, stZ, an_eq]
    cases (Nat.beq (cellsA y).length sz && Nat.ble (off + sz) _ && scals (cellsA y)) <;> simp only [fL_eq, stW, tset_eq] <;> rfl
noncomputable def xE2 (d : Option Nat) (tm : TM) (s : MS) (v : AV) (m : T Slot) (n : Nat) (q : Bool) : Option CS := Bool.rec (motive := fun _ => Option CS) (none) (wS s m n (fin d tm v)) q
noncomputable def xE1 (d : Option Nat) (tm : TM) (s : MS) (r : RE) : Option CS := Option.rec (motive := fun _ => Option CS) (none) (fun p0 => Prod.rec (motive := fun _ => Option CS) (fun v p1 => Prod.rec (motive := fun _ => Option CS) (fun m p2 => Prod.rec (motive := fun _ => Option CS) (fun n q => xE2 d tm s v m n q) p2) p1) p0) r
noncomputable def xEa (d : Option Nat) (tm : TM) (s : MS) (k : EK) (vs : Option (List AV)) : Option CS := Option.rec (motive := fun _ => Option CS) (none) (fun vs => xE1 d tm s (xE k vs s.mem s.n)) vs
noncomputable def xC3 (d : Option Nat) (tm : TM) (r : Option (AV × MS)) : Option CS := Option.rec (motive := fun _ => Option CS) (none) (fun p0 => Prod.rec (motive := fun _ => Option CS) (fun v s => fin d tm v s) p0) r
noncomputable def xC2 (call : CallF) (d : Option Nat) (tm : TM) (s : MS) (f : FuncId) (x y z : List AV) : Option CS := xC3 d tm (call f (x ++ y ++ z) s)
noncomputable def xC1 (call : CallF) (d : Option Nat) (tm : TM) (s : MS) (vs : List AV) (v : AV) : Option CS := AV.rec (motive_1 := fun _ => Option CS) (motive_2 := fun _ => Bool) (fun _ => none) (fun _ _ => none) (fun _ => none) (none) (fun _ _ => none) (none) (fun _ _ _ _ => none) (none) (fun _ => none) (fun f x z _ _ => xC2 call d tm s f x vs z) (fun _ => none) (none) (fun _ _ _ => none) (none) (fun _ _ => none) (fun _ _ => none) (fun _ _ => none) (fun _ => none) true (fun _ _ _ _ => true) v
noncomputable def xC0 (call : CallF) (d : Option Nat) (tm : TM) (s : MS) (vs : List AV) : Option CS := List.rec (motive := fun _ => Option CS) (none) (fun v vs _ => xC1 call d tm s vs v) vs
noncomputable def xC (call : CallF) (d : Option Nat) (tm : TM) (s : MS) (vs : Option (List AV)) : Option CS := Option.rec (motive := fun _ => Option CS) (none) (fun vs => xC0 call d tm s vs) vs
noncomputable def x1 (call : CallF) (op : RO) (d : Option Nat) (tm : TM) (s : MS) : Option CS := RO.rec (motive := fun _ => Option CS) (fun k xs => xPa d tm s k (gs tm xs)) (fun c a b => xPk d tm s a b (ga tm c)) (fun k xs => xLa d tm s k (gs tm xs)) (fun k xs => xAa d tm s k (gs tm xs)) (fun x => xC3 d tm (execV call false (.m x) tm s)) (fun k xs => xEa d tm s k (gs tm xs)) (fun xs => xC call d tm s (gs tm xs)) (none) op
theorem x1_eq (call : CallF) (op : RO) (d : Option Nat) (tm : TM) (s : MS) : x1 call op d tm s = done d tm (execV call false op tm s) := by
  cases op with
  | p k xs =>
    simp only [x1, gs_eq, execV]
    cases getAs tm xs with
    | none => rfl
    | some vs =>
      simp only [xPa, xK_eq]
      cases execK false k vs with
      | none => rfl
      | some p => obtain ⟨v, q⟩ := p; cases q <;> simp [xP, xP1, xP2, fin_eq, chk, done]
  | pick c a b =>
    simp only [x1, ga_eq, execV]
    cases getA tm c with
    | none => rfl
    | some v =>
      cases v <;> try rfl
      rename_i cb
      cases cb
      · simp only [xPk, xPb, xPc, ga_eq, dec]
        cases getA tm b <;> simp [xO, fin_eq, done]
      · simp only [xPk, xPb, xPc, ga_eq, dec]
        cases getA tm a <;> simp [xO, fin_eq, done]
  | l k xs =>
    simp only [x1, gs_eq, execV]
    cases getAs tm xs with
    | none => rfl
    | some vs =>
      simp only [xLa, tg_eq]
      cases tgt k vs with
      | none => simp only [xL1, xL_eq]; cases execL k vs .dead <;> simp [xO, fin_eq, done]
      | some id =>
        simp only [xL1, tget_eq]
        cases s.mem.get id with
        | none => rfl
        | some sl => obtain ⟨o, st, mu⟩ := sl; simp only [xLs, xL_eq]; cases execL k vs o <;> simp [xO, fin_eq, done]
  | a k xs =>
    simp only [x1, gs_eq, execV]
    cases getAs tm xs with
    | none => rfl
    | some vs =>
      simp only [xAa]
      cases execA k vs s.n with
      | none => rfl
      | some p => obtain ⟨o, t, v, q⟩ := p; cases q <;> simp [xA1, xA2, wS_eq, fin_eq, chk, done, tset_eq]
  | e k xs =>
    simp only [x1, gs_eq, execV]
    cases getAs tm xs with
    | none => rfl
    | some vs =>
      simp only [xEa, xE_eq]
      cases execE k vs s.mem s.n with
      | none => rfl
      | some p => obtain ⟨v, m, n, q⟩ := p; cases q <;> simp [xE1, xE2, wS_eq, fin_eq, chk, done]
  | call xs =>
    simp only [x1, gs_eq, execV]
    cases getAs tm xs with
    | none => rfl
    | some vs =>
      rcases vs with _ | ⟨v, vs⟩
      · rfl
      · cases v <;> try rfl
        simp only [xC, xC0, xC1, xC2, xC3, done, fin_eq]
  | m x => simp only [x1, xC3, done, fin_eq]
  | bad => rfl
noncomputable def xG5 (call : CallF) (op : RO) (d : Option Nat) (tm : TM) (s : MS) (q : Bool) : Option CS := Bool.rec (motive := fun _ => Option CS) (put0 d tm s (.tup [])) (x1 call op d tm s) q
noncomputable def xG4 (call : CallF) (op : RO) (d : Option Nat) (tm : TM) (s : MS) (b c : Bool) : Option CS := Bool.rec (motive := fun _ => Option CS) (xG5 call op d tm s (nt b)) (xG5 call op d tm s b) c
noncomputable def xG3 (call : CallF) (op : RO) (d : Option Nat) (tm : TM) (s : MS) (b : Bool) (v : AV) : Option CS := AV.rec (motive_1 := fun _ => Option CS) (motive_2 := fun _ => Bool) (fun c => xG4 call op d tm s b c) (fun _ _ => none) (fun _ => none) (none) (fun _ _ => none) (none) (fun _ _ _ _ => none) (none) (fun _ => none) (fun _ _ _ _ _ => none) (fun _ => none) (none) (fun _ _ _ => none) (none) (fun _ _ => none) (fun _ _ => put0 d tm s (.tup [])) (fun _ _ => none) (fun _ => none) true (fun _ _ _ _ => true) v
noncomputable def xG2 (call : CallF) (op : RO) (d : Option Nat) (tm : TM) (s : MS) (b : Bool) (v : Option AV) : Option CS := Option.rec (motive := fun _ => Option CS) (none) (fun v => xG3 call op d tm s b v) v
noncomputable def xG1 (call : CallF) (op : RO) (d : Option Nat) (tm : TM) (s : MS) (p : Nat × Bool) : Option CS := Prod.rec (motive := fun _ => Option CS) (fun t b => xG2 call op d tm s b (gt tm t)) p
noncomputable def xG (call : CallF) (op : RO) (d : Option Nat) (tm : TM) (s : MS) (g : Option (Nat × Bool)) : Option CS := Option.rec (motive := fun _ => Option CS) (x1 call op d tm s) (fun p => xG1 call op d tm s p) g
noncomputable def xx (call : CallF) (o : ROp) (tm : TM) (s : MS) : Option CS := ROp.rec (motive := fun _ => Option CS) (fun d g op _ => xG call op d tm s g) o
theorem exec1_done (call : CallF) (sy : Bool) (o : ROp) (tm : TM) (s : MS) : exec1 call sy o tm s = done o.dst tm (execG call sy o tm s) := by
  unfold exec1
  cases execG call sy o tm s with
  | none => rfl
  | some p => obtain ⟨v, s'⟩ := p; simp only [fV_eq, TM.seq_eq, fS_eq, done]
theorem xx_eq (call : CallF) (o : ROp) (tm : TM) (s : MS) : xx call o tm s = exec1 call false o tm s := by
  rw [exec1_done]
  obtain ⟨d, g, op, pm⟩ := o
  simp only [xx, execG]
  rcases g with _ | ⟨t, b⟩
  · simp only [xG, want, x1_eq]
  · simp only [xG, xG1, gt_eq, want]
    cases tm.get t with
    | none => rfl
    | some v =>
      cases v <;> try rfl
      · rename_i c
        cases c <;> cases b <;> simp only [xG2, xG3, xG4, xG5, nt, x1_eq, dec, put0_eq, done]
      · simp only [xG2, xG3, put0_eq, done]

/-! ### code -/
noncomputable def rs1 (r : Option CS) (ih : TM → MS → Option CS) : Option CS := Option.rec (motive := fun _ => Option CS) (none) (fun p0 => CS.rec (motive := fun _ => Option CS) (fun tm s => ih tm s) p0) r
noncomputable def rsN (tm : TM) (s : MS) : Option CS := some ⟨tm, s⟩
noncomputable def rsC (call : CallF) (o : ROp) (ih : TM → MS → Option CS) (tm : TM) (s : MS) : Option CS := rs1 (xx call o tm s) ih
noncomputable def rs (call : CallF) (ops : List ROp) : TM → MS → Option CS := List.rec rsN (fun o _ ih => rsC call o ih) ops
theorem rs_eq (call : CallF) : ∀ (ops : List ROp) (tm : TM) (s : MS), rs call ops tm s = runSeq call false ops tm s
  | [], tm, s => rfl
  | o :: r, tm, s => by
    have : rs call (o :: r) tm s = rs1 (xx call o tm s) (rs call r) := rfl
    rw [this, xx_eq]
    simp only [runSeq]
    cases exec1 call false o tm s with
    | none => rfl
    | some c => obtain ⟨tm', s'⟩ := c; exact rs_eq call r tm' s'
abbrev TR := Option (List CS × CS)
noncomputable def tr2 (tm : TM) (s : MS) (r : TR) : TR := Option.rec (motive := fun _ => TR) (none) (fun p0 => Prod.rec (motive := fun _ => TR) (fun l f => some (⟨tm, s⟩ :: l, f)) p0) r
noncomputable def tr1 (tm0 : TM) (s0 : MS) (r : Option CS) (ih : TM → MS → TR) : TR := Option.rec (motive := fun _ => TR) (none) (fun p0 => CS.rec (motive := fun _ => TR) (fun tm s => tr2 tm0 s0 (ih tm s)) p0) r
noncomputable def trN (tm : TM) (s : MS) : TR := some ([], ⟨tm, s⟩)
noncomputable def trC (call : CallF) (o : ROp) (ih : TM → MS → TR) (tm : TM) (s : MS) : TR := tr1 tm s (xx call o tm s) ih
noncomputable def tr (call : CallF) (ops : List ROp) : TM → MS → TR := List.rec trN (fun o _ ih => trC call o ih) ops
theorem tr_eq (call : CallF) : ∀ (ops : List ROp) (tm : TM) (s : MS), tr call ops tm s = runTr call false ops tm s
  | [], tm, s => rfl
  | o :: r, tm, s => by
    have : tr call (o :: r) tm s = tr1 tm s (xx call o tm s) (tr call r) := rfl
    rw [this, xx_eq]
    simp only [runTr]
    cases exec1 call false o tm s with
    | none => rfl
    | some c =>
      obtain ⟨tm', s'⟩ := c
      simp only [tr1, tr_eq call r tm' s']
      cases runTr call false r tm' s' with
      | none => rfl
      | some p => obtain ⟨l, f⟩ := p; rfl
abbrev XS := Option (Ex × CS)
noncomputable def fl3 (b : Bool) (k : Nat) (v : AV) (t : T AV) (ts : T AV → Nat → AV → T AV) : T AV := Bool.rec (motive := fun _ => T AV) (t) (T.seq t fun t => ts t k v) b
noncomputable def fl1 (mask : Nat) (p : Nat × AV) (t : T AV) : T AV := Prod.rec (motive := fun _ => T AV) (fun k v => fl3 (Nat.beq (Nat.land 1 (Nat.shiftRight mask k)) 1) k v t tset) p
noncomputable def fls (mask : Nat) (l : List (Nat × AV)) (b : T AV) : T AV := List.rec b (fun p _ ih => fl1 mask p ih) l
theorem fls_eq (mask : Nat) (b : T AV) : ∀ l, fls mask l b = TM.flushL mask l b
  | [] => rfl
  | (k, v) :: r => by
    have : fls mask ((k, v) :: r) b = fl3 (Nat.beq (Nat.land 1 (Nat.shiftRight mask k)) 1) k v (fls mask r b) tset := rfl
    rw [this, fls_eq mask b r]
    have e : Nat.beq (Nat.land 1 (Nat.shiftRight mask k)) 1 = Nat.testBit mask k := by
      unfold Nat.testBit
      show Nat.beq (1 &&& (mask >>> k)) 1 = ((1 &&& (mask >>> k)) != 0)
      have h : 1 &&& (mask >>> k) = (mask >>> k) % 2 := Nat.one_and_eq_mod_two _
      rw [h]
      rcases Nat.mod_two_eq_zero_or_one (mask >>> k) with h | h <;> rw [h] <;> rfl
    rw [e]
    simp only [TM.flushL, fl3]
    cases Nat.testBit mask k <;> simp [tset_eq]
noncomputable def fl5 (s : MS) (b : T AV) : XS := some (.norm, ⟨⟨b, []⟩, s⟩)
noncomputable def fl4 (mask : Nat) (tm : TM) (s : MS) : XS := TM.rec (motive := fun _ => XS) (fun b l => T.seq (fls mask l b) (fl5 s)) tm
noncomputable def fl (mask : Nat) (r : Option CS) : XS := Option.rec (motive := fun _ => XS) (none) (fun p0 => CS.rec (motive := fun _ => XS) (fun tm s => fl4 mask tm s) p0) r
theorem fl_eq (mask : Nat) (s : CS) : fl mask (some s) = flK mask s := by
  obtain ⟨⟨b, l⟩, s⟩ := s
  simp only [fl, fl4, fls_eq, flK, T.seq_eq, fl5]
noncomputable def dr2 (f : CS) (q : Bool) : Option CS := Bool.rec (motive := fun _ => Option CS) (none) (some f) q
noncomputable def dr1 (ops : List ROp) (r : TR) : Option CS := Option.rec (motive := fun _ => Option CS) (none) (fun p0 => Prod.rec (motive := fun _ => Option CS) (fun l f => dr2 f (staysAll ops (l ++ [f]) 0 ops l)) p0) r
noncomputable def dr (call : CallF) (ops : List ROp) (tm : TM) (s : MS) : Option CS := dr1 ops (tr call ops tm s)
theorem dr_eq (call : CallF) (ops : List ROp) (tm : TM) (s : MS) : dr call ops tm s = runDraw call false ops tm s := by
  simp only [dr, tr_eq, runDraw]
  cases runTr call false ops tm s with
  | none => rfl
  | some p => obtain ⟨l, f⟩ := p; simp only [dr1]; cases staysAll ops (l ++ [f]) 0 ops l <;> rfl
noncomputable def eR (call : CallF) (ops : List ROp) (mask : Nat) (s : CS) : XS := CS.rec (motive := fun _ => XS) (fun tm s => fl mask (rs call ops tm s)) s
noncomputable def eD (call : CallF) (ops : List ROp) (mask : Nat) (s : CS) : XS := CS.rec (motive := fun _ => XS) (fun tm s => fl mask (dr call ops tm s)) s
noncomputable def eS2 (ih : CC → CS → XS) (b : CC) (x : Ex) (s : CS) : XS := Ex.rec (motive := fun _ => XS) (ih b s) (fun q0 => some ((Ex.exit q0), s)) (some ((Ex.ret), s)) x
noncomputable def eS1 (ih : CC → CS → XS) (b : CC) (r : XS) : XS := Option.rec (motive := fun _ => XS) (none) (fun p0 => Prod.rec (motive := fun _ => XS) (fun x s => eS2 ih b x s) p0) r
noncomputable def eB3 (s : CS) (j : Nat) (q : Bool) : XS := Bool.rec (motive := fun _ => XS) (some (.exit j, s)) (some (.norm, s)) q
noncomputable def eB2 (id : Nat) (x : Ex) (s : CS) : XS := Ex.rec (motive := fun _ => XS) (some ((Ex.norm), s)) (fun j => eB3 s j (Nat.beq j id)) (some ((Ex.ret), s)) x
noncomputable def eB1 (id : Nat) (r : XS) : XS := Option.rec (motive := fun _ => XS) (none) (fun p0 => Prod.rec (motive := fun _ => XS) (fun x s => eB2 id x s) p0) r
noncomputable def eC3 (ih : CC → CS → XS) (a b : CC) (s : CS) (c : Bool) : XS := Bool.rec (motive := fun _ => XS) (ih b s) (ih a s) c
noncomputable def eC2 (ih : CC → CS → XS) (a b : CC) (s : CS) (v : AV) : XS := AV.rec (motive_1 := fun _ => XS) (motive_2 := fun _ => Bool) (fun c => eC3 ih a b s c) (fun _ _ => none) (fun _ => none) (none) (fun _ _ => none) (none) (fun _ _ _ _ => none) (none) (fun _ => none) (fun _ _ _ _ _ => none) (fun _ => none) (none) (fun _ _ _ => none) (none) (fun _ _ => none) (fun _ _ => none) (fun _ _ => none) (fun _ => none) true (fun _ _ _ _ => true) v
noncomputable def eC1 (ih : CC → CS → XS) (a b : CC) (s : CS) (v : Option AV) : XS := Option.rec (motive := fun _ => XS) (none) (fun v => eC2 ih a b s v) v
noncomputable def eC (ih : CC → CS → XS) (c : CA) (a b : CC) (s : CS) : XS := CS.rec (motive := fun _ => XS) (fun tm m => eC1 ih a b ⟨tm, m⟩ (ga tm c)) s
noncomputable def es (call : CallF) (ih : CC → CS → XS) (c : CC) (s : CS) : XS := CC.rec (motive := fun _ => XS) (some (.norm, s)) (fun ops mask => eR call ops mask s) (fun ops mask => eD call ops mask s) (fun a b _ _ => eS1 ih b (ih a s)) (fun c a b _ _ => eC ih c a b s) (fun id c _ => eB1 id (ih c s)) (fun c _ => eS1 ih (.loop c) (ih c s)) (fun id => some (.exit id, s)) (some (.ret, s)) (none) c
theorem es_eq (call : CallF) (ih : CC → CS → XS) (c : CC) (s : CS) : es call ih c s = evStep call false ih c s := by
  cases c with
  | reg ops mask =>
    obtain ⟨tm, s⟩ := s
    simp only [es, eR, rs_eq, evStep]
    cases runSeq call false ops tm s with
    | none => rfl
    | some s' => exact fl_eq mask s'
  | dreg ops mask =>
    obtain ⟨tm, s⟩ := s
    simp only [es, eD, dr_eq, evStep]
    cases runDraw call false ops tm s with
    | none => rfl
    | some s' => exact fl_eq mask s'
  | seq a b =>
    simp only [es, evStep]
    cases ih a s with
    | none => rfl
    | some p => obtain ⟨x, s'⟩ := p; cases x <;> rfl
  | loop b =>
    simp only [es, evStep]
    cases ih b s with
    | none => rfl
    | some p => obtain ⟨x, s'⟩ := p; cases x <;> rfl
  | block id b =>
    simp only [es, evStep]
    cases ih b s with
    | none => rfl
    | some p =>
      obtain ⟨x, s'⟩ := p
      cases x <;> first | rfl | (simp only [eB1, eB2]; cases Nat.beq _ _ <;> rfl)
  | cond c a b =>
    obtain ⟨tm, s⟩ := s
    simp only [es, eC, ga_eq, evStep]
    cases getA tm c with
    | none => rfl
    | some v =>
      cases v <;> first | rfl | (rename_i cb; cases cb <;> rfl)
  | skip => rfl
  | exit id => rfl
  | ret => rfl
  | bad => rfl
noncomputable def pa (vs : List AV) : T AV → Nat → T AV := List.rec (fun t _ => t) (fun v _ ih t i => ih (tset t i v) (Nat.succ i)) vs
theorem pa_eq : ∀ (vs : List AV) (t : T AV) (i : Nat), pa vs t i = putArgs t i vs
  | [], t, i => rfl
  | v :: r, t, i => by
    have : pa (v :: r) t i = pa r (tset t i v) (i + 1) := rfl
    rw [this, pa_eq r, tset_eq]; rfl
noncomputable def cS3 (s : MS) (r : Option (List AV)) : Option (AV × MS) := Option.rec (motive := fun _ => Option (AV × MS)) (none) (fun l => some (resV l, s)) r
noncomputable def cS2 (res : List CR) (s : CS) : Option (AV × MS) := CS.rec (motive := fun _ => Option (AV × MS)) (fun tm s => cS3 s (allRes tm s.mem res)) s
noncomputable def cS1 (res : List CR) (x : Ex) (s : CS) : Option (AV × MS) := Ex.rec (motive := fun _ => Option (AV × MS)) (cS2 res s) (fun _ => none) (cS2 res s) x
noncomputable def cS0 (res : List CR) (r : XS) : Option (AV × MS) := Option.rec (motive := fun _ => Option (AV × MS)) (none) (fun p0 => Prod.rec (motive := fun _ => Option (AV × MS)) (fun x s => cS1 res x s) p0) r
noncomputable def cB (ih : CC → CS → XS) (body : CC) (res : List CR) (s : MS) (tm : T AV) : Option (AV × MS) := cS0 res (ih body ⟨⟨tm, []⟩, s⟩)
noncomputable def cA (ih : CC → CS → XS) (body : CC) (res : List CR) (vs : List AV) (s : MS) (q : Bool) : Option (AV × MS) := Bool.rec (motive := fun _ => Option (AV × MS)) (none) (T.seq (pa vs .e 0) (cB ih body res s)) q
noncomputable def cXt (s : MS) (b : Option (AV × MS)) (o : Option AV) : Option (AV × MS) := Option.rec (motive := fun _ => Option (AV × MS)) (b) (fun v => some (v, s)) o
noncomputable def cXk (vs : List AV) (s : MS) (b : Option (AV × MS)) (k : XK) : Option (AV × MS) := XK.rec (motive := fun _ => Option (AV × MS)) (execX .clone vs s) (fun g => execX (.sorted g) vs s) (fun l => cXt s b (findT vs l)) (fun l => execX (.bt l) vs s) (fun l => execX (.mk l) vs s) k
noncomputable def cX (ih : CC → CS → XS) (vs : List AV) (s : MS) (nt : Nat) (body : CC) (res : List CR) (mask : Nat) (x : Option XK) : Option (AV × MS) := Option.rec (motive := fun _ => Option (AV × MS)) (cA ih body res vs s (Nat.ble vs.length nt && allBits mask vs.length)) (fun k => cXk vs s (cA ih body res vs s (Nat.ble vs.length nt && allBits mask vs.length)) k) x
noncomputable def cF (ih : CC → CS → XS) (vs : List AV) (s : MS) (cf : CF) : Option (AV × MS) := CF.rec (motive := fun _ => Option (AV × MS)) (fun nt body res mask x => cX ih vs s nt body res mask x) cf
noncomputable def cO (ih : CC → CS → XS) (vs : List AV) (s : MS) (cf : Option CF) : Option (AV × MS) := Option.rec (motive := fun _ => Option (AV × MS)) (none) (fun cf => cF ih vs s cf) cf
noncomputable def cs (F : Nat → Option CF) (ih : CC → CS → XS) (f : FuncId) (vs : List AV) (s : MS) : Option (AV × MS) := cO ih vs s (F f)
theorem cA_eq (ih : CC → CS → XS) (nt : Nat) (body : CC) (res : List CR) (mask : Nat) (x : Option XK) (vs : List AV) (s : MS) : cA ih body res vs s (Nat.ble vs.length nt && allBits mask vs.length) = callBody ih ⟨nt, body, res, mask, x⟩ vs s := by
  simp only [callBody]
  cases (Nat.ble vs.length nt && allBits mask vs.length) with
  | false => rfl
  | true =>
    simp only [cA, cB, T.seq_eq, pa_eq]
    cases ih body ⟨⟨putArgs .e 0 vs, []⟩, s⟩ with
    | none => rfl
    | some p =>
      obtain ⟨x, tm, s'⟩ := p
      cases x <;> simp only [cS0, cS1, cS2] <;> (try rfl) <;> (cases allRes tm s'.mem res <;> rfl)
theorem cs_eq (F : Nat → Option CF) (ih : CC → CS → XS) : cs F ih = callStep F false ih := by
  funext f vs s
  simp only [cs, callStep]
  cases F f with
  | none => rfl
  | some cf =>
    obtain ⟨nt, body, res, mask, x⟩ := cf
    cases x with
    | some k =>
      simp only [cO, cF, cX]
      rw [cA_eq ih nt body res mask (some k)]
      cases k with
      | clone => rfl
      | sorted g => rfl
      | bt l => rfl
      | mk l => rfl
      | tab l =>
        simp only [cXk]
        cases findT vs l <;> rfl
    | none =>
      simp only [cO, cF, cX]
      exact cA_eq ih nt body res mask none vs s
noncomputable def evN (c : CC) (s : CS) : XS := none
noncomputable def evC (F : Nat → Option CF) (ih : CC → CS → XS) : CC → CS → XS := es (cs F ih) ih
noncomputable def evl (F : Nat → Option CF) : Nat → CC → CS → XS := Nat.rec evN (fun _ ih => evC F ih)
theorem evl_eq (F : Nat → Option CF) : ∀ n, evl F n = ev F false n
  | 0 => rfl
  | n + 1 => by
    have : evl F (n + 1) = es (cs F (evl F n)) (evl F n) := rfl
    rw [this, evl_eq F n, cs_eq, ev_succ]
    funext c s
    exact es_eq _ _ c s
noncomputable def call (F : Nat → Option CF) (n : Nat) (f : FuncId) (vs : List AV) (m : T Slot) (k : Nat) : Option (AV × MS) := cs F (evl F n) f vs ⟨m, k, [], True⟩
theorem call_eq (F : Nat → Option CF) (n : Nat) (f : FuncId) (vs : List AV) (m : T Slot) (k : Nat) : call F n f vs m k = evCall F false [] n f vs m k := by
  unfold call evCall
  rw [cs_eq, evl_eq]
end Fa
end Ev
end Go.Proofs.YtakgohocimlagaaGreat

