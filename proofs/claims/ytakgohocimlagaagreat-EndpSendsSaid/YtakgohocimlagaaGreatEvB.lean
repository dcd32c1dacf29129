/-
  An evaluator over plain data (2): operations that touch no memory: their compiled form, their evaluation, and that the model's run gives what the evaluation gives. Of no program. No condition.
-/
import Derived.Test.YtakgohocimlagaaGreatEvA
namespace Go.Proofs.YtakgohocimlagaaGreat
namespace Ev
variable [E : Inhabited EnvT]
set_option linter.unusedVariables false
set_option linter.unusedSectionVars false
set_option linter.unusedSimpArgs false

/-! ### numbers -/
def awrap (k : IntKind) (n : Int) : Int := match k with
  | .u8 => .ofNat (umod n 256)
  | .u16 => .ofNat (umod n 65536)
  | .u32 => .ofNat (umod n 4294967296)
  | .u64 => .ofNat (umod n 18446744073709551616)
  | .i8 => match Nat.ble 128 (umod n 256) with
    | true => .negSucc (255 - umod n 256)
    | false => .ofNat (umod n 256)
  | .i16 => match Nat.ble 32768 (umod n 65536) with
    | true => .negSucc (65535 - umod n 65536)
    | false => .ofNat (umod n 65536)
  | .i32 => match Nat.ble 2147483648 (umod n 4294967296) with
    | true => .negSucc (4294967295 - umod n 4294967296)
    | false => .ofNat (umod n 4294967296)
  | .i64 => match Nat.ble 9223372036854775808 (umod n 18446744073709551616) with
    | true => .negSucc (18446744073709551615 - umod n 18446744073709551616)
    | false => .ofNat (umod n 18446744073709551616)
theorem awrap_eq (k : IntKind) (n : Int) : awrap k n = k.wrap n := by
  have key : ∀ (h m : Nat) (x : Int) (r : Nat), (r : Int) = x % (m : Int) → m = 2 * h → 0 < h → (match Nat.ble h r with
      | true => Int.negSucc (m - 1 - r)
      | false => Int.ofNat r) = if (x % (m : Int)) ≥ (h : Int) then x % (m : Int) - (m : Int) else x % (m : Int) := by
    intro h m x r hr hm hh
    have hlt : x % (m : Int) < m := Int.emod_lt_of_pos _ (by omega)
    cases hb : Nat.ble h r with
    | true =>
      have := Nat.le_of_ble_eq_true hb
      rw [if_pos (by omega)]
      simp only [Int.negSucc_eq]; omega
    | false =>
      have : ¬ h ≤ r := fun hle => by have := Nat.ble_eq_true_of_le hle; rw [hb] at this; cases this
      rw [if_neg (by omega)]
      simp only [Int.ofNat_eq_natCast]; omega
  cases k
  · have e := umod_eq n 256 (by decide)
    simpa [awrap, IntKind.wrap, IntKind.bits, IntKind.signed] using key 128 256 n _ e (by decide) (by decide)
  · have e := umod_eq n 65536 (by decide)
    simpa [awrap, IntKind.wrap, IntKind.bits, IntKind.signed] using key 32768 65536 n _ e (by decide) (by decide)
  · have e := umod_eq n 4294967296 (by decide)
    simpa [awrap, IntKind.wrap, IntKind.bits, IntKind.signed] using key 2147483648 4294967296 n _ e (by decide) (by decide)
  · have e := umod_eq n 18446744073709551616 (by decide)
    simpa [awrap, IntKind.wrap, IntKind.bits, IntKind.signed] using key 9223372036854775808 18446744073709551616 n _ e (by decide) (by decide)
  · have e := umod_eq n 256 (by decide)
    simpa [awrap, IntKind.wrap, IntKind.bits, IntKind.signed] using e
  · have e := umod_eq n 65536 (by decide)
    simpa [awrap, IntKind.wrap, IntKind.bits, IntKind.signed] using e
  · have e := umod_eq n 4294967296 (by decide)
    simpa [awrap, IntKind.wrap, IntKind.bits, IntKind.signed] using e
  · have e := umod_eq n 18446744073709551616 (by decide)
    simpa [awrap, IntKind.wrap, IntKind.bits, IntKind.signed] using e
/-- the wrap: reckoned (false), or as it stands (true: for numbers that are letters) -/
def wr (sy : Bool) (k : IntKind) (n : Int) : Int := match sy with
  | true => k.wrap n
  | false => awrap k n
@[simp] theorem wr_eq (sy : Bool) (k : IntKind) (n : Int) : wr sy k n = k.wrap n := by cases sy <;> simp [wr, awrap_eq]

theorem toNat_ofInt (k : IntKind) (x : Int) : (BitVec.ofInt k.bits x).toNat = umod x (two k) := by
  rw [BitVec.toNat_ofInt]
  have h := umod_eq x (two k) (by rw [two_eq]; exact Nat.two_pow_pos _)
  rw [two_eq] at h ⊢
  omega

/-- forced before handed on -/
def fN {β : Sort _} (n : Nat) (K : Nat → β) : β := match n with
  | 0 => K 0
  | m + 1 => K (Nat.succ m)
@[simp] theorem fN_eq {β : Sort _} (n : Nat) (K : Nat → β) : fN n K = K n := by cases n <;> rfl
def fI {β : Sort _} (n : Int) (K : Int → β) : β := match n with
  | .ofNat m => fN m fun m => K (.ofNat m)
  | .negSucc m => fN m fun m => K (.negSucc m)
@[simp] theorem fI_eq {β : Sort _} (n : Int) (K : Int → β) : fI n K = K n := by cases n <;> simp [fI]
def fB {β : Sort _} (b : Bool) (K : Bool → β) : β := match b with
  | true => K true
  | false => K false
@[simp] theorem fB_eq {β : Sort _} (b : Bool) (K : Bool → β) : fB b K = K b := by cases b <;> rfl
def fL {α : Type} {β : Sort _} (l : List α) (K : List α → β) : β := match l with
  | [] => K []
  | x :: r => fL r fun r => K (x :: r)
@[simp] theorem fL_eq {α : Type} {β : Sort _} (l : List α) (K : List α → β) : fL l K = K l := by
  induction l generalizing K with
  | nil => rfl
  | cons x r ih => simp [fL, ih]
def fV {β : Sort _} (sy : Bool) (v : AV) (K : AV → β) : β := match sy with
  | true => K v
  | false => match v with
    | .bool b => fB b fun b => K (.bool b)
    | .int k n => fI n fun n => K (.int k n)
    | .ptr id off => fN id fun id => fN off fun off => K (.ptr id off)
    | .sl id off len cap => fN id fun id => fN off fun off => fN len fun len => K (.sl id off len cap)
    | .str s => fL s fun s => K (.str s)
    | .agg cs => fL cs fun cs => K (.agg cs)
    | .nilp => K .nilp
    | .nils => K .nils
    | .nilm => K .nilm
    | .map id => fN id fun id => K (.map id)
    | .nilf => K .nilf
    | .nili => K .nili
    | .fn f a b => K (.fn f a b)
    | .yield id => K (.yield id)
    | .iface t v => K (.iface t v)
    | .tup vs => K (.tup vs)
    | .sx k e => K (.sx k e)
    | .ov i => K (.ov i)
@[simp] theorem fV_eq {β : Sort _} (sy : Bool) (v : AV) (K : AV → β) : fV sy v K = K v := by
  cases sy <;> cases v <;> simp [fV]

/-! ### strings -/
def beqL : List Nat → List Nat → Bool
  | [], [] => true
  | a :: x, b :: y => match Nat.beq (a % 256) (b % 256) with
    | true => beqL x y
    | false => false
  | _, _ => false
def ltL : List Nat → List Nat → Bool
  | _, [] => false
  | [], _ :: _ => true
  | a :: x, b :: y => match Nat.blt (a % 256) (b % 256) with
    | true => true
    | false => match Nat.beq (a % 256) (b % 256) with
      | true => ltL x y
      | false => false
theorem u8_beq (a b : Nat) : (UInt8.ofNat a == UInt8.ofNat b) = Nat.beq (a % 256) (b % 256) := by
  have h : (UInt8.ofNat a = UInt8.ofNat b) ↔ a % 256 = b % 256 := by
    constructor
    · intro h; have := congrArg UInt8.toNat h; simpa using this
    · intro h; apply UInt8.toNat.inj; simpa using h
  have e : Nat.beq (a % 256) (b % 256) = decide (a % 256 = b % 256) := by
    cases hb : Nat.beq (a % 256) (b % 256) with
    | true => simp [Nat.eq_of_beq_eq_true hb]
    | false => simp [Nat.ne_of_beq_eq_false hb]
  rw [e]
  by_cases hh : a % 256 = b % 256
  · simp [h.2 hh, hh]
  · have : ¬ UInt8.ofNat a = UInt8.ofNat b := fun x => hh (h.1 x)
    simp [this, hh]
theorem u8_blt (a b : Nat) : decide (UInt8.ofNat a < UInt8.ofNat b) = Nat.blt (a % 256) (b % 256) := by
  have h : (UInt8.ofNat a < UInt8.ofNat b) ↔ a % 256 < b % 256 := by
    rw [UInt8.lt_iff_toNat_lt]; simp
  have e : Nat.blt (a % 256) (b % 256) = decide (a % 256 < b % 256) := by
    unfold Nat.blt
    by_cases hh : a % 256 < b % 256
    · simp only [hh, decide_true]; exact Nat.ble_eq_true_of_le hh
    · simp only [hh, decide_false]
      cases hb : Nat.ble (a % 256).succ (b % 256) with
      | true => exact absurd (Nat.le_of_ble_eq_true hb) hh
      | false => rfl
  rw [e]; simp only [h]
theorem bs_toList (l : List Nat) : (bs l).toList = l.map UInt8.ofNat := by simp [bs]
theorem beqL_eq : ∀ a b : List Nat, beqL a b = ((bs a).toList == (bs b).toList) := by
  simp only [bs_toList]
  intro a
  induction a with
  | nil => intro b; cases b <;> simp [beqL]
  | cons x a ih =>
    intro b
    cases b with
    | nil => simp [beqL]
    | cons y b =>
      simp only [beqL, List.map_cons, List.cons_beq_cons, u8_beq, ih]
      cases Nat.beq (x % 256) (y % 256) <;> simp
theorem ltL_eq : ∀ a b : List Nat, ltL a b = Op.bytesLess (bs a).toList (bs b).toList := by
  simp only [bs_toList]
  intro a
  induction a with
  | nil => intro b; cases b <;> simp [ltL, Op.bytesLess]
  | cons x a ih =>
    intro b
    cases b with
    | nil => simp [ltL, Op.bytesLess]
    | cons y b =>
      simp only [ltL, List.map_cons, Op.bytesLess, u8_beq, u8_blt, ih]
      cases Nat.blt (x % 256) (y % 256) <;> cases Nat.beq (x % 256) (y % 256) <;> simp
theorem bs_size (l : List Nat) : (bs l).size = l.length := by simp [bs, ByteArray.size]
theorem bs_append (a b : List Nat) : bs (a ++ b) = bs a ++ bs b := by
  apply ByteArray.ext
  simp [bs]
theorem bs_extract (a : List Nat) (l h : Nat) : bs ((a.take h).drop l) = (bs a).extract l h := by
  apply ByteArray.ext
  apply Array.toList_inj.1
  simp [bs, List.drop_take, List.map_take, List.map_drop]
end Ev
end Go.Proofs.YtakgohocimlagaaGreat
