/-
  An evaluator over plain data (12): regions, code, calls: compiled form and evaluation. Of no program. No condition.
-/
import Derived.Test.YtakgohocimlagaaGreatEvK
namespace Go.Proofs.YtakgohocimlagaaGreat
namespace Ev
variable [E : Inhabited EnvT]
set_option linter.unusedVariables false
set_option linter.unusedSectionVars false
set_option linter.unusedSimpArgs false

/-! ### compiled form -/
inductive RO where
  | p (k : PK) (xs : List CA)
  | pick (c a b : CA)
  | l (k : LK) (xs : List CA)
  | a (k : AK) (xs : List CA)
  | m (x : CA)
  | e (k : EK) (xs : List CA)
  | call (xs : List CA)
  | bad

structure ROp where
  dst : Option Nat
  g : Option (Nat × Bool)
  op : RO
  pm : Nat

inductive CC where
  | skip
  | reg (ops : List ROp) (mask : Nat)
  | dreg (ops : List ROp) (mask : Nat)
  | seq (a b : CC)
  | cond (c : CA) (a b : CC)
  | block (id : Nat) (c : CC)
  | loop (c : CC)
  | exit (id : Nat)
  | ret
  | bad

inductive CR where
  | tmp (t : Nat)
  | cell (t : Nat) (sz : Nat) (agg : Bool)

/-- what a call is known to do, by a contract -/
inductive XK where
  | clone
  | sorted (g : FuncId)
  | tab (l : List (List AV × AV))
  | bt (l : List (List Nat × List AV × AV))
  | mk (l : List (List AV × List Nat × AV))

structure CF where
  nt : Nat
  body : CC
  res : List CR
  mask : Nat
  x : Option XK

/-! ### evaluation -/
structure MS where
  mem : T Slot
  n : Nat
  hs : List (Nat × Bool)
  ok : Prop

structure CS where
  tm : TM
  ms : MS

inductive Ex where
  | norm
  | exit (id : Nat)
  | ret

/-- a decision: by what is known (no hint), or by the hint, which is then a condition -/
def dec {β : Type} (sy : Bool) (b : Bool) (s : MS) (K : Bool → MS → Option β) : Option β := match sy with
  | false => match b with
    | true => K true s
    | false => K false s
  | true => match s.hs with
    | [] => K b s
    | (0, h) :: r => K h { s with hs := r, ok := s.ok ∧ b = h }
    | (n + 1, h) :: r => K b { s with hs := (n, h) :: r }
/-- a condition: reckoned, or noted -/
def chk {β : Type} (sy : Bool) (q : Bool) (s : MS) (K : MS → Option β) : Option β := match sy with
  | false => match q with
    | true => K s
    | false => none
  | true => K { s with ok := s.ok ∧ q = true }

abbrev CallF := FuncId → List AV → MS → Option (AV × MS)

def execV (call : CallF) (sy : Bool) (o : RO) (tm : TM) (s : MS) : Option (AV × MS) := match o with
  | .p k xs => match getAs tm xs with
    | some vs => match execK sy k vs with
      | some (v, q) => chk sy q s fun s => some (v, s)
      | none => none
    | none => none
  | .pick c a b => match getA tm c with
    | some (.bool c) => dec sy c s fun c s => match c with
      | true => match getA tm a with
        | some v => some (v, s)
        | none => none
      | false => match getA tm b with
        | some v => some (v, s)
        | none => none
    | _ => none
  | .l k xs => match getAs tm xs with
    | some vs => match tgt k vs with
      | some id => match s.mem.get id with
        | some sl => match execL k vs sl.o with
          | some v => some (v, s)
          | none => none
        | none => none
      | none => match execL k vs .dead with
        | some v => some (v, s)
        | none => none
    | none => none
  | .a k xs => match getAs tm xs with
    | some vs => match execA k vs s.n with
      | some (o, _, v, q) => chk sy q s fun s => some (v, { s with mem := s.mem.set s.n ⟨o, s.n, true⟩, n := s.n + 1 })
      | none => none
    | none => none
  | .m x => match getA tm x with
    | some (.sl id off len cap) => match s.mem.get id with
      | some ⟨.row _ _, _, true⟩ => some (.sl id off len cap, s)
      | _ => none
    | _ => none
  | .e k xs => match getAs tm xs with
    | some vs => match execE k vs s.mem s.n with
      | some (v, m, n, q) => chk sy q s fun s => some (v, { s with mem := m, n := n })
      | none => none
    | none => none
  | .call xs => match getAs tm xs with
    | some (.fn f first caps :: vs) => call f (first ++ vs ++ caps) s
    | _ => none
  | .bad => none

/-- whether an operation is wanted -/
def want {β : Type} (sy : Bool) (g : Option (Nat × Bool)) (tm : TM) (s : MS) (K : Bool → MS → Option β) : Option β := match g with
  | none => K true s
  | some (t, b) => match tm.get t with
    | some (.bool c) => dec sy c s fun c s => match c, b with
      | true, true => K true s
      | false, false => K true s
      | _, _ => K false s
    | some (.tup _) => K false s
    | _ => none

/-- an operation with its guard: its value, and what is left -/
def execG (call : CallF) (sy : Bool) (o : ROp) (tm : TM) (s : MS) : Option (AV × MS) :=
  want sy o.g tm s fun b s => match b with
    | true => execV call sy o.op tm s
    | false => some (.tup [], s)

def putT (tm : TM) (d : Option Nat) (v : AV) : TM := match d with
  | some t => tm.set t v
  | none => tm
/-- a state, forced -/
def fS {β : Type} (sy : Bool) (s : MS) (K : MS → β) : β := T.seq s.mem fun m => fN s.n fun n => K { s with mem := m, n := n }
theorem fS_eq {β : Type} (sy : Bool) (s : MS) (K : MS → β) : fS sy s K = K s := by simp [fS]

def exec1 (call : CallF) (sy : Bool) (o : ROp) (tm : TM) (s : MS) : Option CS := match execG call sy o tm s with
  | some (v, s) => fV sy v fun v => TM.seq (putT tm o.dst v) fun tm => fS sy s fun s => some ⟨tm, s⟩
  | none => none

def runSeq (call : CallF) (sy : Bool) : List ROp → TM → MS → Option CS
  | [], tm, s => some ⟨tm, s⟩
  | o :: r, tm, s => match exec1 call sy o tm s with
    | some ⟨tm, s⟩ => runSeq call sy r tm s
    | none => none

/-- the states on the way, first to last -/
def runTr (call : CallF) (sy : Bool) : List ROp → TM → MS → Option (List CS × CS)
  | [], tm, s => some ([], ⟨tm, s⟩)
  | o :: r, tm, s => match exec1 call sy o tm s with
    | some ⟨tm', s'⟩ => match runTr call sy r tm' s' with
      | some (l, f) => some (⟨tm, s⟩ :: l, f)
      | none => none
    | none => none

def isE : RO → Bool
  | .e _ _ => true
  | .call _ => true
  | _ => false
def isA : RO → Bool
  | .a _ _ => true
  | _ => false
/-- the block that an operation reads, at a state -/
def readOf (o : ROp) (tm : TM) : Option Nat := match o.op with
  | .l k xs => match getAs tm xs with
    | some vs => tgt k vs
    | none => none
  | .m x => match getA tm x with
    | some (.sl id _ _ _) => some id
    | _ => none
  | _ => none

def isRd : RO → Bool
  | .l _ _ => true
  | .m _ => true
  | _ => false
/-- the operations that write or make, and are unordered with operation j -/
def conflFrom (j pmj : Nat) : Nat → List ROp → List Nat
  | _, [] => []
  | i, o :: os => match (isE o.op || isA o.op) && !(Nat.testBit pmj i) && !(Nat.testBit o.pm j) && !(Nat.beq i j) with
    | true => i :: conflFrom j pmj (i + 1) os
    | false => conflFrom j pmj (i + 1) os
/-- none of these touches the block r -/
def staysX (r : Nat) (ss : List CS) : List Nat → Bool
  | [] => true
  | x :: xs => match ss[x]?, ss[x + 1]? with
    | some s, some s' => match s'.ms.mem.get r with
      | some sl => match Nat.blt sl.st s.ms.n with
        | true => staysX r ss xs
        | false => false
      | none => staysX r ss xs
    | _, _ => false
def staysAll (ops : List ROp) (ss : List CS) : Nat → List ROp → List CS → Bool
  | _, [], _ => true
  | _, _ :: _, [] => true
  | j, o :: os, s :: r => match isRd o.op with
    | false => staysAll ops ss (j + 1) os r
    | true => match conflFrom j o.pm 0 ops with
      | [] => staysAll ops ss (j + 1) os r
      | x :: xs => match readOf o s.tm with
        | none => staysAll ops ss (j + 1) os r
        | some b => match staysX b ss (x :: xs) with
          | true => staysAll ops ss (j + 1) os r
          | false => false

def runDraw (call : CallF) (sy : Bool) (ops : List ROp) (tm : TM) (s : MS) : Option CS := match runTr call sy ops tm s with
  | some (l, f) => match staysAll ops (l ++ [f]) 0 ops l with
    | true => some f
    | false => none
  | none => none

def flK (mask : Nat) (s : CS) : Option (Ex × CS) := T.seq (TM.flushL mask s.tm.l s.tm.b) fun b => some (.norm, ⟨⟨b, []⟩, s.ms⟩)
theorem flK_eq (mask : Nat) (s : CS) : flK mask s = some (.norm, ⟨s.tm.flush mask, s.ms⟩) := by simp [flK, TM.flush]
def evStep (call : CallF) (sy : Bool) (ih : CC → CS → Option (Ex × CS)) : CC → CS → Option (Ex × CS)
  | .skip, s => some (.norm, s)
  | .reg ops mask, s => match runSeq call sy ops s.tm s.ms with
    | some s => flK mask s
    | none => none
  | .dreg ops mask, s => match runDraw call sy ops s.tm s.ms with
    | some s => flK mask s
    | none => none
  | .seq a b, s => match ih a s with
    | some (.norm, s) => ih b s
    | some (x, s) => some (x, s)
    | none => none
  | .cond c a b, s => match getA s.tm c with
    | some (.bool c) => dec sy c s.ms fun c m => match c with
      | true => ih a ⟨s.tm, m⟩
      | false => ih b ⟨s.tm, m⟩
    | _ => none
  | .block id c, s => match ih c s with
    | some (.exit j, s) => match Nat.beq j id with
      | true => some (.norm, s)
      | false => some (.exit j, s)
    | some (x, s) => some (x, s)
    | none => none
  | .loop c, s => match ih c s with
    | some (.norm, s) => ih (.loop c) s
    | some (x, s) => some (x, s)
    | none => none
  | .exit id, s => some (.exit id, s)
  | .ret, s => some (.ret, s)
  | .bad, s => none

def putArgs (tm : T AV) : Nat → List AV → T AV
  | _, [] => tm
  | i, v :: r => putArgs (tm.set i v) (i + 1) r
def oneRes (tm : TM) (m : T Slot) : CR → Option AV
  | .tmp t => tm.get t
  | .cell t sz agg => match tm.get t with
    | some (.ptr id off) => match m.get id with
      | some sl => execL (.ld sz agg) [.ptr id off] sl.o
      | none => none
    | _ => none
def allRes (tm : TM) (m : T Slot) : List CR → Option (List AV)
  | [] => some []
  | r :: rs => match oneRes tm m r with
    | some v => match allRes tm m rs with
      | some l => some (v :: l)
      | none => none
    | none => none
def resV : List AV → AV
  | [v] => v
  | vs => .tup vs
/-- all of the first k lie in the mask -/
def allBits (mask : Nat) : Nat → Bool
  | 0 => true
  | k + 1 => Nat.testBit mask k && allBits mask k
/-- a map's keys that are ints -/
def keysI : List (AV × AV × Nat) → Option (List Int)
  | [] => some []
  | (x, _, _) :: r => match x with
    | .int .i64 a => match keysI r with
      | some l => match (Lit.int .i64 a).wf with
        | true => some (a :: l)
        | false => none
      | none => none
    | _ => none
def leZ (x y : Int) : Bool := match x, y with
  | .ofNat a, .ofNat b => Nat.ble a b
  | .negSucc _, .ofNat _ => true
  | .ofNat _, .negSucc _ => false
  | .negSucc a, .negSucc b => Nat.ble b a
def insI (x : Int) : List Int → List Int
  | [] => [x]
  | y :: r => match leZ x y with
    | true => x :: y :: r
    | false => y :: insI x r
def sortI : List Int → List Int
  | [] => []
  | x :: r => insI x (sortI r)
/-- strictly rising -/
def risI : List Int → Bool
  | [] => true
  | x :: r => match r with
    | [] => true
    | y :: _ => !(leZ y x) && risI r
def memB (b : Nat) : List (AV × AV × Nat) → Bool
  | [] => false
  | (_, _, c) :: r => Nat.beq b c || memB b r
def okSt (cl : Nat) : List (AV × AV × Nat) → Bool
  | [] => true
  | (_, _, b) :: r => Nat.blt b cl && !(memB b r) && okSt cl r
def sortX (es : List (AV × AV × Nat)) (cl : Nat) (s : MS) : Option (AV × MS) := match keysI es with
  | some ks => match okSt cl es && risI (sortI ks) && Nat.ble es.length 1000000 with
    | true => match sortI ks with
      | [] => some (.nils, s)
      | x :: r => fL (x :: r) fun l => some (.sl s.n 0 l.length (.rest 1), { s with mem := s.mem.set s.n ⟨.row (l.map fun a => .int .i64 a) true, s.n, true⟩, n := s.n + 1 })
    | false => none
  | none => none
def sortC (c : List AV) (s : MS) : Option (AV × MS) := match c with
  | [.map id] => match s.mem.get id with
    | some ⟨.map es cl, _, _⟩ => sortX es cl s
    | _ => none
  | _ => none
/-- the same scalar; the same row of scalars -/
def beqN : List Nat → List Nat → Bool
  | [], [] => true
  | a :: x, b :: y => match Nat.beq a b with
    | true => beqN x y
    | false => false
  | _, _ => false
theorem beqN_eq : ∀ {x y : List Nat}, beqN x y = true → x = y
  | [], [], _ => rfl
  | a :: x, b :: y, h => by
    simp only [beqN] at h
    split at h
    · rename_i hb; rw [Nat.eq_of_beq_eq_true hb, beqN_eq h]
    · cases h
  | [], _ :: _, h | _ :: _, [], h => by simp [beqN] at h
def beq1 (x y : AV) : Bool := match x, y with
  | .bool true, .bool true => true
  | .bool false, .bool false => true
  | .int k a, .int l b => Nat.beq (kin k) (kin l) && beqI a b
  | .sx k a, .sx l b => Nat.beq (kin k) (kin l) && Sx.beq a b
  | .ov a, .ov b => Nat.beq a b
  | .ptr a o, .ptr b p => Nat.beq a b && Nat.beq o p
  | .nilp, .nilp => true
  | .nils, .nils => true
  | .nilm, .nilm => true
  | .str a, .str b => beqN a b
  | _, _ => false
theorem beq1_eq {x y : AV} (h : beq1 x y = true) : x = y := by
  unfold beq1 at h
  split at h
  · rfl
  · rfl
  · simp only [Bool.and_eq_true] at h; rw [kin_inj (Nat.eq_of_beq_eq_true h.1), beqI_eq h.2]
  · simp only [Bool.and_eq_true] at h; rw [kin_inj (Nat.eq_of_beq_eq_true h.1), Sx.beq_eq h.2]
  · rw [Nat.eq_of_beq_eq_true h]
  · simp only [Bool.and_eq_true] at h; rw [Nat.eq_of_beq_eq_true h.1, Nat.eq_of_beq_eq_true h.2]
  · rfl
  · rfl
  · rfl
  · rw [beqN_eq h]
  · cases h
def beqR : List AV → List AV → Bool
  | [], [] => true
  | x :: r, y :: r' => beq1 x y && beqR r r'
  | _, _ => false
theorem beqR_eq : ∀ {x y : List AV}, beqR x y = true → x = y
  | [], [], _ => rfl
  | x :: r, y :: r', h => by
    simp only [beqR, Bool.and_eq_true] at h
    rw [beq1_eq h.1, beqR_eq h.2]
  | [], _ :: _, h | _ :: _, [], h => by simp [beqR] at h
def beqA (x y : AV) : Bool := match x, y with
  | .agg a, .agg b => beqR a b
  | x, y => beq1 x y
theorem beqA_eq {x y : AV} (h : beqA x y = true) : x = y := by
  unfold beqA at h
  split at h
  · rw [beqR_eq h]
  · exact beq1_eq h
def beqAs : List AV → List AV → Bool
  | [], [] => true
  | x :: r, y :: r' => beqA x y && beqAs r r'
  | _, _ => false
theorem beqAs_eq : ∀ {x y : List AV}, beqAs x y = true → x = y
  | [], [], _ => rfl
  | x :: r, y :: r', h => by
    simp only [beqAs, Bool.and_eq_true] at h
    rw [beqA_eq h.1, beqAs_eq h.2]
  | [], _ :: _, h | _ :: _, [], h => by simp [beqAs] at h
def findT (vs : List AV) : List (List AV × AV) → Option AV
  | [] => none
  | (a, v) :: r => match beqAs a vs with
    | true => some v
    | false => findT vs r
theorem findT_mem {vs : List AV} {v : AV} : ∀ {l : List (List AV × AV)}, findT vs l = some v → (vs, v) ∈ l
  | [], h => by cases h
  | (a, u) :: r, h => by
    simp only [findT] at h
    split at h
    · rename_i hb; cases h; rw [beqAs_eq hb]; exact List.mem_cons_self ..
    · exact List.mem_cons_of_mem _ (findT_mem h)
/-- the bytes that a row's cells hold -/
def bytesN : List AV → Option (List Nat)
  | [] => some []
  | v :: r => match v with
    | .int k z => match Nat.beq (kin k) (kin .u8), z, bytesN r with
      | true, .ofNat n, some l => match Nat.blt n 256 with
        | true => some (n :: l)
        | false => none
      | _, _, _ => none
    | _ => none
/-- the bytes of a slice of them -/
def rowB (v : AV) (m : T Slot) : Option (List Nat) := match v with
  | .nils => some []
  | .sl id off len _ => match m.get id with
    | some ⟨.row cs _, _, _⟩ => match Nat.ble (off + len) cs.length with
      | true => bytesN ((cs.drop off).take len)
      | false => none
    | _ => none
  | _ => none
def findB (b : List Nat) (vs : List AV) : List (List Nat × List AV × AV) → Option AV
  | [] => none
  | (c, a, v) :: r => match beqN c b && beqAs a vs with
    | true => some v
    | false => findB b vs r
theorem findB_mem {b : List Nat} {vs : List AV} {v : AV} : ∀ {l : List (List Nat × List AV × AV)}, findB b vs l = some v → (b, vs, v) ∈ l
  | [], h => by cases h
  | (c, a, u) :: r, h => by
    simp only [findB] at h
    split at h
    · rename_i hb
      simp only [Bool.and_eq_true] at hb
      cases h; rw [beqN_eq hb.1, beqAs_eq hb.2]; exact List.mem_cons_self ..
    · exact List.mem_cons_of_mem _ (findB_mem h)
def findM (vs : List AV) : List (List AV × List Nat × AV) → Option (List Nat × AV)
  | [] => none
  | (a, b, v) :: r => match beqAs a vs with
    | true => some (b, v)
    | false => findM vs r
theorem findM_mem {vs : List AV} {b : List Nat} {v : AV} : ∀ {l : List (List AV × List Nat × AV)}, findM vs l = some (b, v) → (vs, b, v) ∈ l
  | [], h => by cases h
  | (a, c, u) :: r, h => by
    simp only [findM] at h
    split at h
    · rename_i hb; cases h; rw [beqAs_eq hb]; exact List.mem_cons_self ..
    · exact List.mem_cons_of_mem _ (findM_mem h)
def byteA (n : Nat) : AV := .int .u8 (.ofNat n)
/-- a call by its contract -/
def execX (k : XK) (vs : List AV) (s : MS) : Option (AV × MS) := match k, vs with
  | .clone, [.map id] => match s.mem.get id with
    | some ⟨.map es cl, _, _⟩ => some (.map s.n, { s with mem := s.mem.set s.n ⟨.map es cl, s.n, true⟩, n := s.n + 1 })
    | _ => none
  | .clone, [.nilm] => some (.nilm, s)
  | .tab l, vs => match findT vs l with
    | some v => some (v, s)
    | none => none
  | .sorted g, [.fn g' [] [.ptr c 0]] => match Nat.beq g g', s.mem.get c with
    | true, some ⟨.row cs false, _, _⟩ => sortC cs s
    | _, _ => none
  | .bt l, v :: r => match rowB v s.mem with
    | some b => match findB b r l with
      | some u => some (u, s)
      | none => none
    | none => none
  | .mk l, vs => match findM vs l with
    | some (b, v) => fL (b.map byteA) fun cs => fN b.length fun n => some (.tup [.sl s.n 0 n (.rest 1), v], { s with mem := s.mem.set s.n ⟨.row cs true, s.n, true⟩, n := s.n + 1 })
    | none => none
  | _, _ => none
/-- a call: the body, from its arguments; its results -/
def callBody (ih : CC → CS → Option (Ex × CS)) (cf : CF) (vs : List AV) (s : MS) : Option (AV × MS) := match Nat.ble vs.length cf.nt && allBits cf.mask vs.length with
  | true => T.seq (putArgs .e 0 vs) fun tm => match ih cf.body ⟨⟨tm, []⟩, s⟩ with
    | some (.exit _, _) => none
    | some (_, s) => match allRes s.tm s.ms.mem cf.res with
      | some l => some (resV l, s.ms)
      | none => none
    | none => none
  | false => none
def callStep (F : Nat → Option CF) (sy : Bool) (ih : CC → CS → Option (Ex × CS)) : CallF := fun f vs s => match F f with
  | some cf => match cf.x with
    | some k => match k with
      | .tab l => match findT vs l with
        | some v => some (v, s)
        | none => callBody ih cf vs s
      | k => execX k vs s
    | none => callBody ih cf vs s
  | none => none

/-- code evaluated, to a depth -/
def ev (F : Nat → Option CF) (sy : Bool) : Nat → CC → CS → Option (Ex × CS) :=
  Nat.rec (fun _ _ => none) (fun _ ih => evStep (callStep F sy ih) sy ih)
theorem ev_zero (F : Nat → Option CF) (sy : Bool) : ev F sy 0 = fun _ _ => none := rfl
theorem ev_succ (F : Nat → Option CF) (sy : Bool) (n : Nat) : ev F sy (n + 1) = evStep (callStep F sy (ev F sy n)) sy (ev F sy n) := rfl

/-! ### compiled out of the model's code -/
def binds (e : Edge) : Bool := Region.binds .any e
/-- what must come ahead, of the operations so far -/
def maskOf (pms : T Nat) : List Edge → Option Nat
  | [] => some 0
  | e :: r => match maskOf pms r with
    | none => none
    | some m => match binds e with
      | false => some m
      | true => match pms.get e.on with
        | some p => some (Nat.lor m (Nat.lor p (2 ^ e.on)))
        | none => none
def compW (G : Nat → Option Nat) (f : List CA → RO) (xs : List Operand) : RO := match compAs G xs with
  | some cs => f cs
  | none => .bad
def compRO (P : Program) (G : Nat → Option Nat) (o : Oper) : RO := match o.op with
  | .pick c a b => compW G (fun | [c, a, b] => .pick c a b | _ => .bad) [c, a, b]
  | _ => match compP P o.op with
    | some (k, xs) => compW G (.p k) xs
    | none => match compL P o.op with
      | some (k, xs) => compW G (.l k) xs
      | none => match compAK P o.op with
        | some (k, xs) => compW G (.a k) xs
        | none => match compE P o.op with
          | some (k, xs) => compW G (.e k) xs
          | none => match o.op with
            | .call c => match c.callee with
              | .value f => compW G .call (f :: c.args.toList)
              | _ => .bad
            | .convert s d x => match P.underlying s, P.underlying d with
              | some (.slice _), some (.slice e) => match P.underlying e with
                | some (.int .u8) => if s = d then compW G (fun | [c] => .m c | _ => .bad) [x] else .bad
                | _ => .bad
              | _, _ => .bad
            | _ => .bad
def compG (ops : Array Oper) : Option (Nat × Bool) → Option (Option (Nat × Bool))
  | none => some none
  | some (j, w) => match ops[j]? with
    | some o => match o.dst with
      | some t => some (some (t, w))
      | none => none
    | none => none
/-- the mask is asked of a region alone that draws its order -/
def maskIf (dr : Bool) (pms : T Nat) (es : List Edge) : Option Nat := match dr with
  | true => maskOf pms es
  | false => some 0
def compOps (P : Program) (G : Nat → Option Nat) (nt : Nat) (dr : Bool) (all : Array Oper) : List Oper → T Nat → Nat → Option (List ROp)
  | [], _, _ => some []
  | o :: r, pms, k => match maskIf dr pms o.after.toList with
    | none => none
    | some m => fN m fun m => match compRO P G o, compG all o.guard, (match o.dst with | some t => Nat.blt t nt | none => true) with
      | c, some g, true => match T.seq (match dr with | true => pms.set k m | false => pms) fun pms => compOps P G nt dr all r pms (k + 1) with
        | some l => some (⟨o.dst, g, c, m⟩ :: l)
        | none => none
      | _, _, _ => none

/-- the temporaries that an operation reads -/
def tmpsA : List CA → List Nat
  | [] => []
  | .t n :: r => n :: tmpsA r
  | _ :: r => tmpsA r
def readsO (o : ROp) : List Nat := (match o.g with | some (t, _) => [t] | none => []) ++ (match o.op with
  | .p _ xs => tmpsA xs
  | .pick c a b => tmpsA [c, a, b]
  | .l _ xs => tmpsA xs
  | .a _ xs => tmpsA xs
  | .m x => tmpsA [x]
  | .e _ xs => tmpsA xs
  | .call xs => tmpsA xs
  | .bad => [])
/-- two operations, i ahead of j in the text: bound to one another where they must be -/
def pairOk (i : Nat) (x y : ROp) : Bool := Nat.testBit y.pm i ||
  (!(isE x.op && isE y.op) && (match x.dst with | some d => !(readsO y).contains d && y.dst != some d | none => true) && (match y.dst with | some d => !(readsO x).contains d | none => true))
def pairsFrom (i : Nat) (x : ROp) : List ROp → Bool
  | [] => true
  | y :: r => pairOk i x y && pairsFrom i x r
def pairsAll : Nat → List ROp → Bool
  | _, [] => true
  | i, x :: r => pairsFrom i x r && pairsAll (i + 1) r

def compC (P : Program) (G : Nat → Option Nat) (nt mask : Nat) : Code → CC
  | .skip => .skip
  | .region _ ops draw => match compOps P G nt draw ops ops.toList .e 0 with
    | some l => match draw with
      | false => .reg l mask
      | true => match pairsAll 0 l && P.follows .mixedOrders with
        | true => .dreg l mask
        | false => .bad
    | none => .bad
  | .seq a b => .seq (compC P G nt mask a) (compC P G nt mask b)
  | .cond c a b => match compA G c with
    | some c => .cond c (compC P G nt mask a) (compC P G nt mask b)
    | none => .bad
  | .block id c => .block id (compC P G nt mask c)
  | .loop c => .loop (compC P G nt mask c)
  | .exit id => .exit id
  | .ret => .ret
  | _ => .bad
def compR (P : Program) : List ResultVar → Option (List CR)
  | [] => some []
  | .tmp t :: r => match compR P r with
    | some l => some (.tmp t :: l)
    | none => none
  | .cell a t :: r => match P.info? t, P.underlying t, compR P r with
    | some i, some d, some l => some (.cell a i.size (isAggD d) :: l)
    | _, _, _ => none
def compF (P : Program) (G : Nat → Option Nat) (mask : Nat) (f : Func) : Option CF := match f.body with
  | some c => if f.name = "runtime.NumGoroutine" then none else match compR P f.results.toList with
    | some r => some ⟨f.ntmps, compC P G f.ntmps mask c, r, mask, none⟩
    | none => none
  | none => none
end Ev
end Go.Proofs.YtakgohocimlagaaGreat
