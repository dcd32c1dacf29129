/-
  An evaluator over plain data (1): values, memory as a trie, the relation to the model's values and worlds, and its primitive steps. Of no program. No condition.
-/
import Derived.WalkKit
import Derived.Orders
namespace Go.Proofs.YtakgohocimlagaaGreat
namespace Ev
set_option linter.unusedVariables false
set_option linter.unusedSectionVars false
set_option linter.unusedSimpArgs false
theorem heap_alloc (w : World) (o : Obj) : (w.alloc o).heap = w.heap.push o := rfl

/-! ### a trie -/
inductive T (α : Type) where
  | e
  | n (l : T α) (v : Option α) (r : T α)

namespace T
variable {α : Type}
def get : T α → Nat → Option α
  | .e, _ => none
  | .n l v r, i => match i with
    | 0 => v
    | k + 1 => match k % 2 with
      | 0 => l.get (k / 2)
      | _ => r.get (k / 2)
def fl (l : T α) (v : Option α) (r : T α) : T α := match l with
  | .e => .n .e v r
  | .n a b c => .n (.n a b c) v r
def fr (l : T α) (v : Option α) (r : T α) : T α := match r with
  | .e => .n l v .e
  | .n a b c => .n l v (.n a b c)
theorem fl_eq (l : T α) (v : Option α) (r : T α) : fl l v r = .n l v r := by cases l <;> rfl
theorem fr_eq (l : T α) (v : Option α) (r : T α) : fr l v r = .n l v r := by cases r <;> rfl
def setF : Nat → T α → Nat → α → T α
  | 0, t, _, _ => t
  | f + 1, t, i, x => match t with
    | .e => match i with
      | 0 => .n .e (some x) .e
      | k + 1 => match k % 2 with
        | 0 => fl (setF f .e (k / 2) x) none .e
        | _ => fr .e none (setF f .e (k / 2) x)
    | .n l v r => match i with
      | 0 => .n l (some x) r
      | k + 1 => match k % 2 with
        | 0 => fl (setF f l (k / 2) x) v r
        | _ => fr l v (setF f r (k / 2) x)
def set (t : T α) (i : Nat) (x : α) : T α := setF (i + 1) t i x
theorem get_setF (x : α) : ∀ (f : Nat) (t : T α) (i j : Nat), i < f → (setF f t i x).get j = if j = i then some x else t.get j := by
  intro f
  induction f with
  | zero => intro t i j h; omega
  | succ f ih =>
    intro t i j h
    have hd : ∀ k, i = k + 1 → k / 2 < f := by intro k hk; omega
    cases t with
    | e =>
      cases i with
      | zero =>
        cases j with
        | zero => simp [setF, get]
        | succ j => simp only [setF, get]; split <;> simp
      | succ k =>
        have hk := hd k rfl
        simp only [setF]
        rcases Nat.mod_two_eq_zero_or_one k with hm | hm
        · simp only [hm, fl_eq]
          cases j with
          | zero => simp [get]
          | succ j =>
            simp only [get]
            rcases Nat.mod_two_eq_zero_or_one j with hn | hn
            · simp only [hn, ih _ _ _ hk]
              by_cases he : j = k
              · simp [he]
              · have : ¬ j / 2 = k / 2 := by omega
                simp [this, he, get]
            · simp only [hn]
              have : ¬ j = k := by omega
              simp [this]
        · simp only [hm, fr_eq]
          cases j with
          | zero => simp [get]
          | succ j =>
            simp only [get]
            rcases Nat.mod_two_eq_zero_or_one j with hn | hn
            · simp only [hn]
              have : ¬ j = k := by omega
              simp [this]
            · simp only [hn, ih _ _ _ hk]
              by_cases he : j = k
              · simp [he]
              · have : ¬ j / 2 = k / 2 := by omega
                simp [this, he, get]
    | n l v r =>
      cases i with
      | zero =>
        cases j with
        | zero => simp [setF, get]
        | succ j => simp [setF, get]
      | succ k =>
        have hk := hd k rfl
        simp only [setF]
        rcases Nat.mod_two_eq_zero_or_one k with hm | hm
        · simp only [hm, fl_eq]
          cases j with
          | zero => simp [get]
          | succ j =>
            simp only [get]
            rcases Nat.mod_two_eq_zero_or_one j with hn | hn
            · simp only [hn, ih _ _ _ hk]
              by_cases he : j = k
              · simp [he]
              · have : ¬ j / 2 = k / 2 := by omega
                simp [this, he]
            · simp only [hn]
              have : ¬ j = k := by omega
              simp [this]
        · simp only [hm, fr_eq]
          cases j with
          | zero => simp [get]
          | succ j =>
            simp only [get]
            rcases Nat.mod_two_eq_zero_or_one j with hn | hn
            · simp only [hn]
              have : ¬ j = k := by omega
              simp [this]
            · simp only [hn, ih _ _ _ hk]
              by_cases he : j = k
              · simp [he]
              · have : ¬ j / 2 = k / 2 := by omega
                simp [this, he]
theorem get_set (t : T α) (i j : Nat) (x : α) : (t.set i x).get j = if j = i then some x else t.get j := get_setF x _ t i j (by omega)
/-- evaluated first, then handed on -/
def seq {β : Type} (t : T α) (K : T α → β) : β := match t with
  | .e => K .e
  | .n a b c => K (.n a b c)
@[simp] theorem seq_eq {β : Type} (t : T α) (K : T α → β) : seq t K = K t := by cases t <;> rfl
end T

/-! ### numbers -/
def umod (n : Int) (m : Nat) : Nat := match n with
  | .ofNat a => a % m
  | .negSucc a => m - 1 - a % m
theorem umod_eq (n : Int) (m : Nat) (h : 0 < m) : (umod n m : Int) = n % (m : Int) := by
  cases n with
  | ofNat a => simp [umod]
  | negSucc a =>
    have h1 : a % m < m := Nat.mod_lt _ h
    simp only [umod, Int.negSucc_emod a (by omega : (0 : Int) < m)]
    rw [← Int.natCast_emod]
    omega
def two (k : IntKind) : Nat := match k with
  | .u8 | .i8 => 256
  | .u16 | .i16 => 65536
  | .u32 | .i32 => 4294967296
  | .u64 | .i64 => 18446744073709551616
theorem two_eq (k : IntKind) : two k = 2 ^ k.bits := by cases k <;> rfl
def p2 (n : Nat) : Int := .ofNat (2 ^ n)
theorem p2_eq (n : Nat) : p2 n = 2 ^ n := by simp [p2, Int.natCast_pow]


/-! ### letters: numbers that are not known, and what is known of them -/
/-- what an operation on numbers gives -/
def opI (op : BinOp) (k : IntKind) (a b : Int) : Int := match op with
  | .add => k.wrap (a + b)
  | .sub => k.wrap (a - b)
  | .mul => k.wrap (a * b)
  | .quo => k.wrap (a.tdiv b)
  | .rem => a.tmod b
  | .and => k.wrap (.ofNat (Nat.land (umod a (two k)) (umod b (two k))))
  | .or => k.wrap (.ofNat (Nat.lor (umod a (two k)) (umod b (two k))))
  | .xor => k.wrap (.ofNat (Nat.xor (umod a (two k)) (umod b (two k))))
  | .andNot => k.wrap (.ofNat (Nat.land (umod a (two k)) (two k - 1 - umod b (two k))))
  | .shl => k.wrap (a * p2 (Nat.min b.toNat k.bits))
  | .shr => a.fdiv (p2 (Nat.min b.toNat k.bits))
  | _ => 0
def cmpI (op : BinOp) (a b : Int) : Option Bool := match op with
  | .eql => some (a == b)
  | .neq => some (a != b)
  | .lss => some (decide (a < b))
  | .leq => some (decide (a ≤ b))
  | .gtr => some (decide (a > b))
  | .geq => some (decide (a ≥ b))
  | _ => none
inductive Sx where
  | v (n : Nat)
  | c (z : Int)
  | o (op : BinOp) (k : IntKind) (a b : Sx)
  | w (k : IntKind) (a : Sx)
  | mn (a b : Sx)
  | mx (a b : Sx)
def Sx.den (i : Nat → Int) : Sx → Int
  | .v n => i n
  | .c z => z
  | .o op k a b => opI op k (a.den i) (b.den i)
  | .w k a => k.wrap (a.den i)
  | .mn a b => min (a.den i) (b.den i)
  | .mx a b => max (a.den i) (b.den i)
def opn (op : BinOp) : Nat := match op with
  | .add => 0 | .sub => 1 | .mul => 2 | .quo => 3 | .rem => 4 | .and => 5 | .or => 6 | .xor => 7 | .shl => 8 | .shr => 9 | .andNot => 10 | .eql => 11 | .neq => 12 | .lss => 13 | .leq => 14 | .gtr => 15 | .geq => 16
theorem opn_inj : ∀ {a b : BinOp}, opn a = opn b → a = b := by
  intro a b h
  cases a <;> cases b <;> first | rfl | (simp [opn] at h; done)
def kin (k : IntKind) : Nat := match k with
  | .i8 => 0 | .i16 => 1 | .i32 => 2 | .i64 => 3 | .u8 => 4 | .u16 => 5 | .u32 => 6 | .u64 => 7
theorem kin_inj : ∀ {a b : IntKind}, kin a = kin b → a = b := by
  intro a b h
  cases a <;> cases b <;> first | rfl | (simp [kin] at h)
def beqI (a b : Int) : Bool := match a, b with
  | .ofNat x, .ofNat y => Nat.beq x y
  | .negSucc x, .negSucc y => Nat.beq x y
  | _, _ => false
theorem beqI_eq {a b : Int} (h : beqI a b = true) : a = b := by
  cases a <;> cases b <;> simp [beqI] at h <;> simp [h]
def Sx.beq : Sx → Sx → Bool
  | .v n, .v m => Nat.beq n m
  | .c x, .c y => beqI x y
  | .o p k a b, .o q l a' b' => Nat.beq (opn p) (opn q) && Nat.beq (kin k) (kin l) && Sx.beq a a' && Sx.beq b b'
  | .w k a, .w l b => Nat.beq (kin k) (kin l) && Sx.beq a b
  | .mn a b, .mn a' b' => Sx.beq a a' && Sx.beq b b'
  | .mx a b, .mx a' b' => Sx.beq a a' && Sx.beq b b'
  | _, _ => false
theorem Sx.beq_eq : ∀ {a b : Sx}, Sx.beq a b = true → a = b
  | .v n, .v m, h => by simp only [Sx.beq] at h; have := Nat.eq_of_beq_eq_true h; subst this; rfl
  | .c x, .c y, h => by simp only [Sx.beq] at h; have := beqI_eq h; subst this; rfl
  | .o p k a b, .o q l a' b', h => by
    simp only [Sx.beq, Bool.and_eq_true] at h
    obtain ⟨⟨⟨h1, h3⟩, h4⟩, h5⟩ := h
    rw [opn_inj (Nat.eq_of_beq_eq_true h1), kin_inj (Nat.eq_of_beq_eq_true h3), Sx.beq_eq h4, Sx.beq_eq h5]
  | .w k a, .w l b, h => by
    simp only [Sx.beq, Bool.and_eq_true] at h
    rw [kin_inj (Nat.eq_of_beq_eq_true h.1), Sx.beq_eq h.2]
  | .mn a b, .mn a' b', h => by
    simp only [Sx.beq, Bool.and_eq_true] at h
    rw [Sx.beq_eq h.1, Sx.beq_eq h.2]
  | .mx a b, .mx a' b', h => by
    simp only [Sx.beq, Bool.and_eq_true] at h
    rw [Sx.beq_eq h.1, Sx.beq_eq h.2]
  | .v _, .c _, h | .v _, .o .., h | .v _, .w .., h | .v _, .mn .., h | .v _, .mx .., h | .c _, .v _, h | .c _, .o .., h | .c _, .w .., h | .c _, .mn .., h | .c _, .mx .., h | .o .., .v _, h | .o .., .c _, h | .o .., .w .., h | .o .., .mn .., h | .o .., .mx .., h | .w .., .v _, h | .w .., .c _, h | .w .., .o .., h | .w .., .mn .., h | .w .., .mx .., h | .mn .., .v _, h | .mn .., .c _, h | .mn .., .o .., h | .mn .., .w .., h | .mn .., .mx .., h | .mx .., .v _, h | .mx .., .c _, h | .mx .., .o .., h | .mx .., .w .., h | .mx .., .mn .., h => by simp [Sx.beq] at h
/-- what is known: how a comparison ends; what a number is -/
inductive Fact where
  | cmp (op : BinOp) (a b : Sx) (r : Bool)
  | is (e : Sx) (z : Sx)
def Fact.holds (i : Nat → Int) : Fact → Prop
  | .cmp op a b r => cmpI op (a.den i) (b.den i) = some r
  | .is e z => e.den i = z.den i
/-- the letters' numbers, the letters' values, and what is known of the numbers -/
structure EnvT where
  i : Nat → Int
  v : Nat → Value
  ft : List Fact
  ok : ∀ f, f ∈ ft → f.holds i
  vo : ∀ n, (v n).cells = #[v n] ∧ (v n).oneCell' = true
  base : Nat
  h0 : Nat → Option Obj
def findC (op : BinOp) (a b : Sx) : List Fact → Option Bool
  | [] => none
  | f :: r => match f with
    | .cmp q a' b' z => match Nat.beq (opn q) (opn op) && Sx.beq a' a && Sx.beq b' b with
      | true => some z
      | false => findC op a b r
    | .is _ _ => findC op a b r
theorem findC_ok {i : Nat → Int} {op : BinOp} {a b : Sx} : ∀ {l : List Fact} {z : Bool}, (∀ f, f ∈ l → f.holds i) → findC op a b l = some z → cmpI op (a.den i) (b.den i) = some z
  | [], _, _, h => by cases h
  | f :: r, z, hl, h => by
    cases f with
    | cmp q a' b' y =>
      simp only [findC] at h
      split at h
      · rename_i hb
        cases h
        simp only [Bool.and_eq_true] at hb
        obtain ⟨⟨h1, h3⟩, h4⟩ := hb
        have := hl _ (List.mem_cons_self ..)
        simp only [Fact.holds] at this
        rw [← opn_inj (Nat.eq_of_beq_eq_true h1), ← Sx.beq_eq h3, ← Sx.beq_eq h4]
        exact this
      · exact findC_ok (fun f hf => hl f (List.mem_cons_of_mem _ hf)) h
    | is e y =>
      simp only [findC] at h
      exact findC_ok (fun f hf => hl f (List.mem_cons_of_mem _ hf)) h
def findV (e : Sx) : List Fact → Sx
  | [] => e
  | f :: r => match f with
    | .is a z => match Sx.beq a e with
      | true => z
      | false => findV e r
    | .cmp _ _ _ _ => findV e r
theorem findV_ok {i : Nat → Int} {e : Sx} : ∀ {l : List Fact}, (∀ f, f ∈ l → f.holds i) → (findV e l).den i = e.den i
  | [], _ => rfl
  | f :: r, hl => by
    cases f with
    | is a z =>
      simp only [findV]
      split
      · rename_i hb
        have := hl _ (List.mem_cons_self ..)
        simp only [Fact.holds] at this
        rw [← Sx.beq_eq hb]; exact this.symm
      · exact findV_ok fun f hf => hl f (List.mem_cons_of_mem _ hf)
    | cmp _ _ _ _ =>
      simp only [findV]
      exact findV_ok fun f hf => hl f (List.mem_cons_of_mem _ hf)
/-- how a comparison of letters ends -/
def cmpS [E : Inhabited EnvT] (op : BinOp) (a b : Sx) : Option Bool := match a, b with
  | .c x, .c y => cmpI op x y
  | a, b => match op, Sx.beq a b with
    | .eql, true => some true
    | .neq, true => some false
    | op, _ => findC op a b E.default.ft
theorem cmpS_ok [E : Inhabited EnvT] {op : BinOp} {a b : Sx} {z : Bool} (h : cmpS op a b = some z) : cmpI op (a.den E.default.i) (b.den E.default.i) = some z := by
  unfold cmpS at h
  split at h
  · exact h
  · split at h
    · rename_i hb; cases h; rw [Sx.beq_eq hb]; simp [cmpI]
    · rename_i hb; cases h; rw [Sx.beq_eq hb]; simp [cmpI]
    · exact findC_ok E.default.ok h

/-! ### values -/
inductive ACap where
  | fix (n : Nat)
  | rest (z : Nat)

inductive AV where
  | bool (b : Bool)
  | int (k : IntKind) (n : Int)
  | str (s : List Nat)
  | nilp
  | ptr (id off : Nat)
  | nils
  | sl (id off len : Nat) (cap : ACap)
  | nilm
  | map (id : Nat)
  | fn (f : FuncId) (first caps : List AV)
  | yield (id : Nat)
  | nilf
  | iface (t : TypeId) (v : AV)
  | nili
  | agg (cs : List AV)
  | tup (vs : List AV)
  | sx (k : IntKind) (e : Sx)
  | ov (i : Nat)

/-- bytes of numbers -/
def bs (l : List Nat) : ByteArray := ⟨(l.map UInt8.ofNat).toArray⟩

structure Ent where
  blk : Nat
  dl : Nat
  tot : Nat

abbrev Mp := Nat → Option Ent

def ACap.of (c : ACap) (off tot : Nat) : Nat := match c with
  | .fix n => n
  | .rest z => (tot - off) / z

variable [E : Inhabited EnvT]
mutual
inductive R (ρ : Mp) : AV → Value → Prop
  | bool (b : Bool) : R ρ (.bool b) (.bool b)
  | int (k : IntKind) (n : Int) : R ρ (.int k n) (.int k n)
  | str (s : List Nat) : R ρ (.str s) (.string (bs s))
  | nilp : R ρ .nilp (.pointer none)
  | ptr {id off : Nat} {e : Ent} (h : ρ id = some e) : R ρ (.ptr id off) (.pointer (some ⟨e.blk, e.dl + off, none⟩))
  | nils : R ρ .nils (.slice none 0 0)
  | sl {id off len : Nat} {cap : ACap} {e : Ent} (h : ρ id = some e) (hl : len ≤ cap.of off e.tot) :
      R ρ (.sl id off len cap) (.slice (some ⟨e.blk, e.dl + off, none⟩) len (cap.of off e.tot))
  | sl0 {id off z o : Nat} {e : Ent} (h : ρ id = some e) : R ρ (.sl id off 0 (.rest z)) (.slice (some ⟨e.blk, o, none⟩) 0 0)
  | nilm : R ρ .nilm (.map none)
  | map {id : Nat} {e : Ent} (h : ρ id = some e) : R ρ (.map id) (.map (some e.blk))
  | fn (f : FuncId) {xs ys : List AV} {Xs Ys : List Value} (hx : Rs ρ xs Xs) (hy : Rs ρ ys Ys) : R ρ (.fn f xs ys) (.func (.func f) ⟨Xs⟩ ⟨Ys⟩)
  | yield {id : Nat} {e : Ent} (h : ρ id = some e) : R ρ (.yield id) (.func (.yield e.blk) #[] #[])
  | nilf : R ρ .nilf .nilFunc
  | iface (t : TypeId) {v : AV} {V : Value} (h : R ρ v V) : R ρ (.iface t v) (.iface t V)
  | nili : R ρ .nili .nilIface
  | agg {cs : List AV} {Cs : List Value} (h : Rs ρ cs Cs) : R ρ (.agg cs) (.agg ⟨Cs⟩)
  | tup {cs : List AV} {Cs : List Value} (h : Rs ρ cs Cs) : R ρ (.tup cs) (.tuple ⟨Cs⟩)
  | sx (k : IntKind) (e : Sx) : R ρ (.sx k e) (.int k (e.den E.default.i))
  | ov (i : Nat) : R ρ (.ov i) (E.default.v i)
inductive Rs (ρ : Mp) : List AV → List Value → Prop
  | nil : Rs ρ [] []
  | cons {v : AV} {V : Value} {vs : List AV} {Vs : List Value} (h : R ρ v V) (hs : Rs ρ vs Vs) : Rs ρ (v :: vs) (V :: Vs)
end

/-- one map says at least what the other does -/
def Ext (ρ ρ' : Mp) : Prop := ∀ id e, ρ id = some e → ρ' id = some e
theorem Ext.refl (ρ : Mp) : Ext ρ ρ := fun _ _ h => h
theorem Ext.trans {a b c : Mp} (h : Ext a b) (h' : Ext b c) : Ext a c := fun id e x => h' id e (h id e x)

mutual
theorem R.ext {ρ ρ' : Mp} (h : Ext ρ ρ') : ∀ {v : AV} {V : Value}, R ρ v V → R ρ' v V
  | _, _, .bool b => .bool b
  | _, _, .int k n => .int k n
  | _, _, .str s => .str s
  | _, _, .nilp => .nilp
  | _, _, .ptr hx => .ptr (h _ _ hx)
  | _, _, .nils => .nils
  | _, _, .sl hx hl => .sl (h _ _ hx) hl
  | _, _, .sl0 hx => .sl0 (h _ _ hx)
  | _, _, .nilm => .nilm
  | _, _, .map hx => .map (h _ _ hx)
  | _, _, .fn f hx hy => .fn f (Rs.ext h hx) (Rs.ext h hy)
  | _, _, .yield hx => .yield (h _ _ hx)
  | _, _, .nilf => .nilf
  | _, _, .iface t hv => .iface t (R.ext h hv)
  | _, _, .nili => .nili
  | _, _, .agg hc => .agg (Rs.ext h hc)
  | _, _, .tup hc => .tup (Rs.ext h hc)
  | _, _, .sx k e => .sx k e
  | _, _, .ov i => .ov i
theorem Rs.ext {ρ ρ' : Mp} (h : Ext ρ ρ') : ∀ {v : List AV} {V : List Value}, Rs ρ v V → Rs ρ' v V
  | _, _, .nil => .nil
  | _, _, .cons hv hs => .cons (R.ext h hv) (Rs.ext h hs)
end

theorem Rs.length {ρ : Mp} : ∀ {v : List AV} {V : List Value}, Rs ρ v V → v.length = V.length
  | _, _, .nil => rfl
  | _, _, .cons _ hs => by simp [Rs.length hs]
theorem Rs.get {ρ : Mp} : ∀ {v : List AV} {V : List Value} {i : Nat} {x : AV}, Rs ρ v V → v[i]? = some x → ∃ X, V[i]? = some X ∧ R ρ x X
  | _, _, i, _, .nil, h => by simp at h
  | _, _, 0, _, .cons hv hs, h => by simp at h; subst h; exact ⟨_, rfl, hv⟩
  | _, _, i + 1, _, .cons hv hs, h => by simp at h; obtain ⟨X, hX, hR⟩ := Rs.get hs h; exact ⟨X, by simpa using hX, hR⟩
theorem Rs.append {ρ : Mp} : ∀ {v u : List AV} {V U : List Value}, Rs ρ v V → Rs ρ u U → Rs ρ (v ++ u) (V ++ U)
  | _, _, _, _, .nil, h => h
  | _, _, _, _, .cons hv hs, h => .cons hv (Rs.append hs h)
theorem Rs.take {ρ : Mp} : ∀ {v : List AV} {V : List Value} (n : Nat), Rs ρ v V → Rs ρ (v.take n) (V.take n)
  | _, _, 0, _ => by simpa using Rs.nil
  | _, _, n + 1, .nil => .nil
  | _, _, n + 1, .cons hv hs => .cons hv (Rs.take n hs)
theorem Rs.drop {ρ : Mp} : ∀ {v : List AV} {V : List Value} (n : Nat), Rs ρ v V → Rs ρ (v.drop n) (V.drop n)
  | _, _, 0, h => h
  | _, _, n + 1, .nil => .nil
  | _, _, n + 1, .cons hv hs => Rs.drop n hs
theorem Rs.set {ρ : Mp} : ∀ {v : List AV} {V : List Value} (i : Nat) {x : AV} {X : Value}, Rs ρ v V → R ρ x X → Rs ρ (v.set i x) (V.set i X)
  | _, _, _, _, _, .nil, _ => .nil
  | _, _, 0, _, _, .cons hv hs, h => .cons h hs
  | _, _, i + 1, _, _, .cons hv hs, h => .cons hv (Rs.set i hs h)
theorem Rs.one {ρ : Mp} {x : AV} {X : Value} (h : R ρ x X) : Rs ρ [x] [X] := .cons h .nil
theorem Rs.replicate {ρ : Mp} {x : AV} {X : Value} (h : R ρ x X) : ∀ n, Rs ρ (List.replicate n x) (List.replicate n X)
  | 0 => .nil
  | n + 1 => .cons h (Rs.replicate h n)

/-! ### objects -/
inductive AO where
  | row (cs : List AV) (ext : Bool)
  | map (es : List (AV × AV × Nat)) (clock : Nat)
  | dead

structure Slot where
  o : AO
  st : Nat
  mu : Bool

inductive REs (ρ : Mp) : List (AV × AV × Nat) → List MapEntry → Prop
  | nil : REs ρ [] []
  | cons {k v : AV} {b : Nat} {K V : Value} {es : List (AV × AV × Nat)} {Es : List MapEntry} (hk : R ρ k K) (hv : R ρ v V) (hs : REs ρ es Es) :
      REs ρ ((k, v, b) :: es) (⟨K, V, b⟩ :: Es)
theorem REs.ext {ρ ρ' : Mp} (h : Ext ρ ρ') : ∀ {v : List (AV × AV × Nat)} {V : List MapEntry}, REs ρ v V → REs ρ' v V
  | _, _, .nil => .nil
  | _, _, .cons hk hv hs => .cons (hk.ext h) (hv.ext h) (REs.ext h hs)

/-- no cell of n is frozen -/
def FzOk (n : Nat) (fz : Nat × Nat) : Prop := fz.1 = fz.2 ∨ n ≤ fz.1
theorem FzOk.out {n : Nat} {fz : Nat × Nat} (h : FzOk n fz) {i : Nat} (hi : i < n) : ¬ (fz.1 ≤ i ∧ i < fz.2) := by
  rcases h with h | h <;> omega
/-- what a block's object says of the block's content -/
def Rel (ρ : Mp) (o : AO) (e : Ent) (x : Obj) : Prop := match o with
  | .row cs ext => ∃ (c : Array Value) (el : TypeId) (fz : Nat × Nat) (Cs : List Value), x = .cells c el fz ∧ Rs ρ cs Cs ∧
      (∀ i, i < cs.length → c[e.dl + i]? = Cs[i]?) ∧ c.size = e.dl + e.tot ∧ cs.length ≤ e.tot ∧ (ext = false → cs.length = e.tot ∧ e.dl = 0) ∧
      FzOk c.size fz
  | .map es clock => ∃ Es : List MapEntry, x = .map ⟨Es⟩ clock ∧ REs ρ es Es
  | .dead => True
theorem Rel.ext {ρ ρ' : Mp} (h : Ext ρ ρ') {o : AO} {e : Ent} {x : Obj} (hr : Rel ρ o e x) : Rel ρ' o e x := by
  cases o with
  | row cs ext => obtain ⟨c, el, fz, Cs, h1, h2, h3⟩ := hr; exact ⟨c, el, fz, Cs, h1, h2.ext h, h3⟩
  | map es clock => obtain ⟨Es, h1, h2⟩ := hr; exact ⟨Es, h1, h2.ext h⟩
  | dead => trivial

abbrev Mem := Nat → Option Slot
def live (m : Mem) (id : Nat) : Prop := ∀ s, m id = some s → s.o ≠ .dead

structure Sim (ρ : Mp) (m : Mem) (w : World) : Prop where
  rel : ∀ id e s, ρ id = some e → m id = some s → ∃ x, w.heap[e.blk]? = some x ∧ Rel ρ s.o e x
  inj : ∀ id id' e e', ρ id = some e → ρ id' = some e' → id ≠ id' → live m id → live m id' → e.blk ≠ e'.blk
  lt : ∀ id e, ρ id = some e → e.blk < w.heap.size
  old : ∀ b, b < E.default.base → w.heap[b]? = E.default.h0 b
  sz : E.default.base ≤ w.heap.size
  hi : ∀ id e s, ρ id = some e → m id = some s → s.mu = true → s.o ≠ .dead → E.default.base ≤ e.blk

/-- a block that may be written: the block of a live object of the call's own -/
def Own (ρ : Mp) (m : Mem) (b : Nat) : Prop := ∃ id e s, ρ id = some e ∧ e.blk = b ∧ m id = some s ∧ s.mu = true ∧ s.o ≠ .dead

/-- what the evaluation itself keeps, of no world -/
structure Evo (m : Mem) (n : Nat) (m' : Mem) (n' : Nat) : Prop where
  le : n ≤ n'
  same : ∀ id, m' id = m id ∨ ∃ s, m' id = some s ∧ n ≤ s.st
  bound : (∀ id, n ≤ id → m id = none) → ∀ id, n' ≤ id → m' id = none
theorem Evo.refl (m : Mem) (n : Nat) : Evo m n m n := ⟨Nat.le_refl _, fun _ => .inl rfl, fun h => h⟩
theorem Evo.trans {m m1 m2 : Mem} {n n1 n2 : Nat} (h : Evo m n m1 n1) (h' : Evo m1 n1 m2 n2) : Evo m n m2 n2 :=
  ⟨Nat.le_trans h.le h'.le, fun id => by
    rcases h'.same id with e | ⟨s, e, hs⟩
    · rcases h.same id with e' | ⟨s, e', hs⟩
      · exact .inl (e.trans e')
      · exact .inr ⟨s, e.trans e', hs⟩
    · exact .inr ⟨s, e, Nat.le_trans h.le hs⟩, fun hb => h'.bound (h.bound hb)⟩

/-- what a world holds beside its heap -/
def Same (w w' : World) : Prop := w'.os = w.os ∧ w'.tape = w.tape ∧ w'.output = w.output
theorem Same.refl (w : World) : Same w w := ⟨rfl, rfl, rfl⟩
theorem Same.trans {a b c : World} (h : Same a b) (h' : Same b c) : Same a c := ⟨h'.1.trans h.1, h'.2.1.trans h.2.1, h'.2.2.trans h.2.2⟩
/-- a step of the evaluation beside one of the model -/
structure Step (ρ : Mp) (m : Mem) (n : Nat) (w : World) (ρ' : Mp) (m' : Mem) (n' : Nat) (w' : World) : Prop where
  ext : Ext ρ ρ'
  new : ∀ id e, ρ' id = some e → ρ id = some e ∨ (n ≤ id ∧ id < n')
  sim : Sim ρ' m' w'
  size : w.heap.size ≤ w'.heap.size
  frame : ∀ b, b < w.heap.size → ¬ Own ρ m b → w'.heap[b]? = w.heap[b]?
  own : ∀ b, b < w.heap.size → Own ρ' m' b → Own ρ m b
  off : ∀ id, ρ id = none → (id < n ∨ n' ≤ id) → m' id = m id
  le : n ≤ n'
  rest : Same w w'
theorem Step.refl {ρ : Mp} {m : Mem} {n : Nat} {w : World} (h : Sim ρ m w) : Step ρ m n w ρ m n w :=
  ⟨Ext.refl _, fun _ _ h => .inl h, h, Nat.le_refl _, fun _ _ _ => rfl, fun _ _ h => h, fun _ _ _ => rfl, Nat.le_refl _, Same.refl _⟩
theorem Step.trans {ρ ρ1 ρ2 : Mp} {m m1 m2 : Mem} {n n1 n2 : Nat} {w w1 w2 : World} (h : Step ρ m n w ρ1 m1 n1 w1) (h' : Step ρ1 m1 n1 w1 ρ2 m2 n2 w2)
    : Step ρ m n w ρ2 m2 n2 w2 where
  ext := h.ext.trans h'.ext
  new := fun id e x => by
    rcases h'.new id e x with y | ⟨a, b⟩
    · rcases h.new id e y with z | ⟨a, b⟩
      · exact .inl z
      · exact .inr ⟨a, Nat.lt_of_lt_of_le b h'.le⟩
    · exact .inr ⟨Nat.le_trans h.le a, b⟩
  sim := h'.sim
  size := Nat.le_trans h.size h'.size
  frame := fun b hb hn => by
    rw [h'.frame b (Nat.lt_of_lt_of_le hb h.size) (fun ho => hn (h.own b hb ho)), h.frame b hb hn]
  own := fun b hb ho => h.own b hb (h'.own b (Nat.lt_of_lt_of_le hb h.size) ho)
  off := fun id hid hr => by
    have hl := h.le; have hl' := h'.le
    have hn1 : ρ1 id = none := by
      cases hx : ρ1 id with
      | none => rfl
      | some e =>
        rcases h.new id e hx with y | ⟨a, b⟩
        · rw [hid] at y; cases y
        · omega
    rw [h'.off id hn1 (by omega), h.off id hid (by omega)]
  le := Nat.le_trans h.le h'.le
  rest := h.rest.trans h'.rest

/-- lay an entry -/
def Mp.put (ρ : Mp) (id : Nat) (e : Ent) : Mp := fun i => if i = id then some e else ρ i
def Mem.put (m : Mem) (id : Nat) (s : Slot) : Mem := fun i => if i = id then some s else m i
theorem Mp.put_ext {ρ : Mp} {id : Nat} {e : Ent} (h : ρ id = none) : Ext ρ (ρ.put id e) := fun i x hx => by
  unfold Mp.put; split
  · rename_i hi; subst hi; rw [h] at hx; cases hx
  · exact hx

/-- a new block -/
theorem Step.alloc {ρ : Mp} {m : Mem} {n : Nat} {w : World} (hs : Sim ρ m w) (hn : ρ n = none) (x : Obj) (o : AO) (tot : Nat) (ho : o ≠ .dead)
    (hr : Rel ρ o ⟨w.heap.size, 0, tot⟩ x) (m' : Mem) (hm' : ∀ i, m' i = m.put n ⟨o, n, true⟩ i) :
    Step ρ m n w (ρ.put n ⟨w.heap.size, 0, tot⟩) m' (n + 1) (w.alloc x) := by
  obtain rfl : m' = m.put n ⟨o, n, true⟩ := funext hm'
  have hE := Mp.put_ext (e := ⟨w.heap.size, 0, tot⟩) hn
  have hlive : ∀ i, i ≠ n → live (m.put n ⟨o, n, true⟩) i → live m i := fun i hi hl s hs' => hl s (by simp [Mem.put, hi, hs'])
  constructor
  · exact hE
  · intro id e he
    unfold Mp.put at he; split at he
    · rename_i hi; subst hi; exact .inr ⟨Nat.le_refl _, Nat.lt_succ_self _⟩
    · exact .inl he
  · constructor
    · intro id e s he hms
      by_cases hi : id = n
      · subst hi
        simp [Mp.put] at he; simp [Mem.put] at hms; subst he; subst hms
        exact ⟨x, by simp [heap_alloc], hr.ext hE⟩
      · simp [Mp.put, hi] at he; simp [Mem.put, hi] at hms
        obtain ⟨y, hy, hry⟩ := hs.rel id e s he hms
        have hl := hs.lt id e he
        exact ⟨y, by rw [heap_alloc]; rw [Array.getElem?_push_lt hl]; rw [Array.getElem?_eq_getElem hl] at hy; exact hy, hry.ext hE⟩
    · intro id id' e e' he he' hne hl hl'
      by_cases hi : id = n
      · subst hi
        simp [Mp.put] at he; subst he
        have hi' : id' ≠ id := fun h => hne h.symm
        simp [Mp.put, hi'] at he'
        have := hs.lt id' e' he'
        simp; omega
      · simp [Mp.put, hi] at he
        by_cases hi' : id' = n
        · subst hi'
          simp [Mp.put] at he'; subst he'
          have := hs.lt id e he
          simp; omega
        · simp [Mp.put, hi'] at he'
          exact hs.inj id id' e e' he he' hne (hlive _ hi hl) (hlive _ hi' hl')
    · intro id e he
      by_cases hi : id = n
      · subst hi; simp [Mp.put] at he; subst he; simp
      · simp [Mp.put, hi] at he
        have := hs.lt id e he
        simp; omega
    · intro b hb
      have h1 := hs.sz
      have h2 : b < w.heap.size := by omega
      rw [← hs.old b hb, heap_alloc, Array.getElem?_push_lt h2, Array.getElem?_eq_getElem h2]
    · have h1 := hs.sz
      simp; omega
    · intro id e s he hms hmu hd
      by_cases hi : id = n
      · subst hi; simp [Mp.put] at he; subst he; exact hs.sz
      · simp [Mp.put, hi] at he; simp [Mem.put, hi] at hms
        exact hs.hi id e s he hms hmu hd
  · simp
  · intro b hb _
    rw [heap_alloc, Array.getElem?_push_lt hb, Array.getElem?_eq_getElem hb]
  · intro b hb ⟨id, e, s, he, heb, hms, hmu, hd⟩
    by_cases hi : id = n
    · subst hi; simp [Mp.put] at he; subst he; simp at heb; omega
    · simp [Mp.put, hi] at he; simp [Mem.put, hi] at hms
      exact ⟨id, e, s, he, heb, hms, hmu, hd⟩
  · intro id hid hr'
    have hi : id ≠ n := by omega
    simp [Mem.put, hi]
  · omega
  · exact ⟨rfl, rfl, rfl⟩

/-- a block written -/
theorem Step.write {ρ : Mp} {m : Mem} {n : Nat} {w w' : World} (hs : Sim ρ m w) {id : Nat} {e : Ent} {s : Slot} (he : ρ id = some e) (hm : m id = some s)
    (hmu : s.mu = true) (hd : s.o ≠ .dead) (o : AO) (hsame : Same w w') (hsz : w'.heap.size = w.heap.size) (hfr : ∀ b, b ≠ e.blk → w'.heap[b]? = w.heap[b]?)
    (hr : ∃ x, w'.heap[e.blk]? = some x ∧ Rel ρ o e x) (m' : Mem) (hm' : ∀ i, m' i = m.put id ⟨o, n, true⟩ i) :
    Step ρ m n w ρ m' (n + 1) w' := by
  obtain rfl : m' = m.put id ⟨o, n, true⟩ := funext hm'
  have hlive : ∀ i, live (m.put id ⟨o, n, true⟩) i → live m i := fun i hl t ht => by
    by_cases hi : i = id
    · subst hi; rw [hm] at ht; cases ht; exact hd
    · exact hl t (by simp [Mem.put, hi, ht])
  have hown : Own ρ m e.blk := ⟨id, e, s, he, rfl, hm, hmu, hd⟩
  constructor
  · exact Ext.refl _
  · exact fun _ _ h => .inl h
  · constructor
    · intro i f t hf ht
      by_cases hi : i = id
      · subst hi; rw [he] at hf; cases hf
        simp [Mem.put] at ht; subst ht
        exact hr
      · simp [Mem.put, hi] at ht
        obtain ⟨x, hx, hrx⟩ := hs.rel i f t hf ht
        cases hto : t.o with
        | dead => exact ⟨w'.heap[f.blk]'(by rw [hsz]; exact hs.lt i f hf), by simp [hsz, hs.lt i f hf], by simp [Rel]⟩
        | row cs ex =>
          have hlt : live m i := fun t' ht' => by rw [ht] at ht'; cases ht'; simp [hto]
          have hne := hs.inj i id f e hf he hi hlt (fun t' ht' => by rw [hm] at ht'; cases ht'; exact hd)
          exact ⟨x, by rw [hfr _ hne, hx], by rw [hto] at hrx; exact hrx⟩
        | map es cl =>
          have hlt : live m i := fun t' ht' => by rw [ht] at ht'; cases ht'; simp [hto]
          have hne := hs.inj i id f e hf he hi hlt (fun t' ht' => by rw [hm] at ht'; cases ht'; exact hd)
          exact ⟨x, by rw [hfr _ hne, hx], by rw [hto] at hrx; exact hrx⟩
    · intro i i' f f' hf hf' hne hl hl'
      exact hs.inj i i' f f' hf hf' hne (hlive _ hl) (hlive _ hl')
    · intro i f hf; rw [hsz]; exact hs.lt i f hf
    · intro b hb
      have h1 := hs.hi id e s he hm hmu hd
      rw [hfr b (by omega)]; exact hs.old b hb
    · rw [hsz]; exact hs.sz
    · intro i f t hf ht htm htd
      by_cases hi : i = id
      · subst hi; rw [he] at hf; cases hf; exact hs.hi _ _ s he hm hmu hd
      · simp [Mem.put, hi] at ht; exact hs.hi i f t hf ht htm htd
  · omega
  · intro b hb hn
    exact hfr b fun h => hn (h ▸ hown)
  · intro b hb ⟨i, f, t, hf, hfb, ht, htm, htd⟩
    by_cases hi : i = id
    · subst hi; rw [he] at hf; cases hf; exact hfb ▸ hown
    · simp [Mem.put, hi] at ht; exact ⟨i, f, t, hf, hfb, ht, htm, htd⟩
  · intro i hi _
    have : i ≠ id := fun h => by subst h; rw [he] at hi; cases hi
    simp [Mem.put, this]
  · omega
  · exact hsame

/-- a block touched, its object as before -/
theorem Step.touch {ρ : Mp} {m : Mem} {n : Nat} {w w' : World} (hs : Sim ρ m w) {id : Nat} {e : Ent} {s : Slot} (he : ρ id = some e) (hm : m id = some s)
    (hmu : s.mu = true) (hd : s.o ≠ .dead) (hsame : Same w w') (hsz : w'.heap.size = w.heap.size) (hfr : ∀ b, b ≠ e.blk → w'.heap[b]? = w.heap[b]?)
    (hr : ∃ x, w'.heap[e.blk]? = some x ∧ Rel ρ s.o e x) : Step ρ m n w ρ m n w' := by
  have hown : Own ρ m e.blk := ⟨id, e, s, he, rfl, hm, hmu, hd⟩
  refine ⟨Ext.refl _, fun _ _ h => .inl h, ⟨fun i f t hf ht => ?_, hs.inj, fun i f hf => by rw [hsz]; exact hs.lt i f hf, fun b hb => by have h1 := hs.hi id e s he hm hmu hd; rw [hfr b (by omega)]; exact hs.old b hb, by rw [hsz]; exact hs.sz, hs.hi⟩, by omega, fun b hb hn => hfr b fun h => hn (h ▸ hown), fun _ _ h => h, fun _ _ _ => rfl, Nat.le_refl _, hsame⟩
  by_cases hi : i = id
  · subst hi; rw [he] at hf; cases hf; rw [hm] at ht; cases ht; exact hr
  · obtain ⟨x, hx, hrx⟩ := hs.rel i f t hf ht
    by_cases hto : t.o = .dead
    · exact ⟨w'.heap[f.blk]'(by rw [hsz]; exact hs.lt i f hf), by simp [hsz, hs.lt i f hf], by simp [hto, Rel]⟩
    · have hne := hs.inj i id f e hf he hi (fun t' ht' => by rw [ht] at ht'; cases ht'; exact hto) (fun t' ht' => by rw [hm] at ht'; cases ht'; exact hd)
      exact ⟨x, by rw [hfr _ hne, hx], hrx⟩

/-- a row that grew: the old object is dead, the new one stands at the same block, further on -/
theorem Step.grow {ρ : Mp} {m : Mem} {n : Nat} {w w' : World} (hs : Sim ρ m w) (hn : ρ (n + 1) = none) {id : Nat} {e : Ent} {s : Slot} (he : ρ id = some e) (hm : m id = some s)
    (hmu : s.mu = true) (hd : s.o ≠ .dead) (o : AO) (hsame : Same w w') (hsz : w'.heap.size = w.heap.size) (hfr : ∀ b, b ≠ e.blk → w'.heap[b]? = w.heap[b]?)
    (e' : Ent) (heb : e'.blk = e.blk) (hr : ∃ x, w'.heap[e.blk]? = some x ∧ Rel ρ o e' x) (m' : Mem)
    (hm' : ∀ i, m' i = (m.put id ⟨.dead, n, true⟩).put (n + 1) ⟨o, n + 1, true⟩ i) :
    Step ρ m n w (ρ.put (n + 1) e') m' (n + 2) w' := by
  obtain rfl : m' = (m.put id ⟨.dead, n, true⟩).put (n + 1) ⟨o, n + 1, true⟩ := funext hm'
  have hE := Mp.put_ext (e := e') hn
  have hidn : id ≠ n + 1 := fun h => by subst h; rw [hn] at he; cases he
  have hown : Own ρ m e.blk := ⟨id, e, s, he, rfl, hm, hmu, hd⟩
  have hlive : ∀ i, i ≠ n + 1 → i ≠ id → live ((m.put id ⟨.dead, n, true⟩).put (n + 1) ⟨o, n + 1, true⟩) i → live m i := fun i h1 h2 hl t ht =>
    hl t (by simp [Mem.put, h1, h2, ht])
  have hdead : ¬ live ((m.put id ⟨.dead, n, true⟩).put (n + 1) ⟨o, n + 1, true⟩) id := fun hl => hl ⟨.dead, n, true⟩ (by simp [Mem.put, hidn]) rfl
  have hlid : live m id := fun t ht => by rw [hm] at ht; cases ht; exact hd
  constructor
  · exact hE
  · intro i f hf
    unfold Mp.put at hf; split at hf
    · rename_i hi; subst hi; exact .inr ⟨by omega, by omega⟩
    · exact .inl hf
  · constructor
    · intro i f t hf ht
      by_cases hi : i = n + 1
      · subst hi
        simp [Mp.put] at hf; simp [Mem.put] at ht; subst hf; subst ht
        obtain ⟨x, hx, hrx⟩ := hr
        exact ⟨x, by rw [heb]; exact hx, hrx.ext hE⟩
      · simp [Mp.put, hi] at hf
        by_cases hi2 : i = id
        · subst hi2
          simp [Mem.put, hi] at ht; subst ht
          exact ⟨w'.heap[f.blk]'(by rw [hsz]; exact hs.lt i f hf), by simp [hsz, hs.lt i f hf], by simp [Rel]⟩
        · simp [Mem.put, hi, hi2] at ht
          obtain ⟨x, hx, hrx⟩ := hs.rel i f t hf ht
          by_cases hto : t.o = .dead
          · exact ⟨w'.heap[f.blk]'(by rw [hsz]; exact hs.lt i f hf), by simp [hsz, hs.lt i f hf], by simp [hto, Rel]⟩
          · have hlt : live m i := fun t' ht' => by rw [ht] at ht'; cases ht'; exact hto
            have hne := hs.inj i id f e hf he hi2 hlt hlid
            exact ⟨x, by rw [hfr _ hne, hx], hrx.ext hE⟩
    · intro i i' f f' hf hf' hne hl hl'
      by_cases hi : i = n + 1
      · subst hi
        have hi' : i' ≠ n + 1 := fun h => hne h.symm
        by_cases h2 : i' = id
        · subst h2; exact absurd hl' hdead
        · simp [Mp.put] at hf; simp [Mp.put, hi'] at hf'; subst hf
          have := hs.inj id i' e f' he hf' (fun h => h2 h.symm) hlid (hlive _ hi' h2 hl')
          rw [heb]; exact this
      · simp [Mp.put, hi] at hf
        by_cases h1 : i = id
        · subst h1; exact absurd hl hdead
        · by_cases hi' : i' = n + 1
          · subst hi'
            simp [Mp.put] at hf'; subst hf'
            have := hs.inj i id f e hf he h1 (hlive _ hi h1 hl) hlid
            rw [heb]; exact this
          · simp [Mp.put, hi'] at hf'
            by_cases h2 : i' = id
            · subst h2; exact absurd hl' hdead
            · exact hs.inj i i' f f' hf hf' hne (hlive _ hi h1 hl) (hlive _ hi' h2 hl')
    · intro i f hf
      rw [hsz]
      by_cases hi : i = n + 1
      · subst hi; simp [Mp.put] at hf; subst hf; rw [heb]; exact hs.lt id e he
      · simp [Mp.put, hi] at hf; exact hs.lt i f hf
    · intro b hb
      have h1 := hs.hi id e s he hm hmu hd
      rw [hfr b (by omega)]; exact hs.old b hb
    · rw [hsz]; exact hs.sz
    · intro i f t hf ht htm htd
      by_cases hi : i = n + 1
      · subst hi; simp [Mp.put] at hf; subst hf; rw [heb]; exact hs.hi id e s he hm hmu hd
      · simp [Mp.put, hi] at hf
        by_cases hi2 : i = id
        · subst hi2; rw [he] at hf; cases hf; exact hs.hi _ _ s he hm hmu hd
        · simp [Mem.put, hi, hi2] at ht
          exact hs.hi i f t hf ht htm htd
  · omega
  · intro b hb hnb
    exact hfr b fun h => hnb (h ▸ hown)
  · intro b hb ⟨i, f, t, hf, hfb, ht, htm, htd⟩
    by_cases hi : i = n + 1
    · subst hi; simp [Mp.put] at hf; subst hf; rw [heb] at hfb; exact hfb ▸ hown
    · simp [Mp.put, hi] at hf
      by_cases h2 : i = id
      · subst h2; rw [he] at hf; cases hf; exact hfb ▸ hown
      · simp [Mem.put, hi, h2] at ht; exact ⟨i, f, t, hf, hfb, ht, htm, htd⟩
  · intro i hi hr'
    have h1 : i ≠ n + 1 := by omega
    have h2 : i ≠ id := fun h => by subst h; rw [he] at hi; cases hi
    simp [Mem.put, h1, h2]
  · omega
  · exact hsame
end Ev
end Go.Proofs.YtakgohocimlagaaGreat
