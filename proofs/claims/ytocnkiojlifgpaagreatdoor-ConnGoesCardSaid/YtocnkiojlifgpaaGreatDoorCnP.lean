/-
  Plain facts of the cookies that conn makes and takes. No condition.
-/
import Derived.Test.YtocnkiojlifgpaaGreatDoorCnB
namespace Go.Proofs.YtocnkiojlifgpaaGreatDoor
open Go.RowKit
set_option linter.unusedVariables false
set_option linter.unusedSimpArgs false

theorem says_bd {x : Inf} (hx : x.Ok) : 0 ≤ says x ∧ says x < 256 := by
  obtain ⟨⟨a, b⟩, c, d⟩ := hx
  unfold says
  (repeat' split) <;> omega
theorem told_ok (o : Int) : (told o).Ok := by
  unfold told Inf.Ok
  simp only
  split <;> omega
theorem told_in (o : Int) : (told o).In := by
  have := told_ok o
  unfold Inf.Ok at this
  constructor <;> omega
theorem says_told (o : Int) : says (told o) = o % 256 := by
  unfold says told
  simp only
  have h5 : (if (if o % 16 = 15 then (-1 : Int) else o % 16) < 0 then (15 : Int) else if o % 16 = 15 then -1 else o % 16) = o % 16 := by
    by_cases h : o % 16 = 15
    · rw [if_pos h, h]; rfl
    · rw [if_neg h, if_neg (by omega)]
  rw [h5]
  by_cases h1 : o / 16 % 2 = 1
  · have h2 : (o / 16 % 2 == 1) = true := by simp [h1]
    rw [h2, if_pos rfl]
    omega
  · have h2 : (o / 16 % 2 == 1) = false := by simpa using h1
    rw [h2, if_neg (by simp)]
    omega
theorem told_says {x : Inf} (hx : x.Ok) (q : Int) : told (q * 256 + says x) = x := by
  obtain ⟨c, k, s⟩ := x
  obtain ⟨⟨a, b⟩, d, e⟩ := hx
  simp only at a b d e
  unfold told says
  cases k with
  | true =>
    simp only [if_true]
    have h2 : (q * 256 + (c * 32 + 16 + if s < 0 then 15 else s)) / 32 % 8 = c := by split <;> omega
    have h3 : (q * 256 + (c * 32 + 16 + if s < 0 then 15 else s)) / 16 % 2 = 1 := by split <;> omega
    have h4 : (if (q * 256 + (c * 32 + 16 + if s < 0 then 15 else s)) % 16 = 15 then (-1 : Int) else (q * 256 + (c * 32 + 16 + if s < 0 then 15 else s)) % 16) = s := by (repeat' split) <;> omega
    rw [h2, h3, h4]
    rfl
  | false =>
    simp only [Bool.false_eq_true, if_false]
    have h2 : (q * 256 + (c * 32 + 0 + if s < 0 then 15 else s)) / 32 % 8 = c := by split <;> omega
    have h3 : (q * 256 + (c * 32 + 0 + if s < 0 then 15 else s)) / 16 % 2 = 0 := by split <;> omega
    have h4 : (if (q * 256 + (c * 32 + 0 + if s < 0 then 15 else s)) % 16 = 15 then (-1 : Int) else (q * 256 + (c * 32 + 0 + if s < 0 then 15 else s)) % 16) = s := by (repeat' split) <;> omega
    rw [h2, h3, h4]
    rfl
/-- A cookie of a tick is fresh at that tick, and up to 64 ticks behind it; whatever its lowest bits. -/
theorem fresh_of {key : Int} {t : Tup} {cl tk th ck : Int} (h0 : 0 ≤ tk) (h1 : tk ≤ th) (h2 : th ≤ tk + 64) (hc : ck / 256 * 256 = topOf (hashOf key t cl (tk / 64))) : fresh key t cl th ck = true := by
  unfold fresh
  rcases (by omega : th / 64 = tk / 64 ∨ th / 64 = tk / 64 + 1) with e | e
  · rw [e]
    have : isAt key t cl (tk / 64) ck = true := by unfold isAt; exact decide_eq_true hc.symm
    rw [this]; rfl
  · have h3 : th / 64 - 1 = tk / 64 := by omega
    rw [h3]
    have : isAt key t cl (tk / 64) ck = true := by unfold isAt; exact decide_eq_true hc.symm
    rw [this]
    have h4 : decide (th / 64 = 0) = false := decide_eq_false (by omega)
    rw [h4]; simp
theorem check_fresh {key : Int} {t : Tup} {cl th ck : Int} (h : fresh key t cl th ck = true) : checkI key t cl th ck = told ck ∧ checkE key t cl th ck = 0 := by
  unfold checkI checkE; rw [if_pos h, if_pos h]; exact ⟨rfl, rfl⟩
theorem make_ok {key : Int} {t : Tup} {cl tk : Int} {x : Inf} (hx : x.Ok) : makeC key t cl tk x = topOf (hashOf key t cl (tk / 64)) + says x := by unfold makeC; rw [if_pos hx]
theorem isAt_eq2 {key : Int} {t : Tup} {cl ep ck : Int} (hk : U64 key) : (hashOf key t cl ep / 1099511627776 == ck / 256) = isAt key t cl ep ck := by
  obtain ⟨h2, h3⟩ := hashOf_bd hk t cl ep
  unfold isAt topOf
  generalize hashOf key t cl ep = h at *
  rw [show (h / 1099511627776 == ck / 256) = decide (h / 1099511627776 = ck / 256) from rfl, decide_eq_decide]
  omega


def keyC : Int := 19088743
def tupC : Tup := ⟨6, 167772162, 3221225985, 4000, 80⟩
theorem keyC_ok : U64 keyC := ⟨by decide, by decide⟩
theorem tupC_ok : tupC.Ok := ⟨by decide, by decide, by decide, by decide, by decide, by decide, by decide, by decide, by decide, by decide⟩
theorem Inf.in_of {x : Inf} (h : x.Ok) : x.In := by
  unfold Inf.Ok at h
  constructor <;> omega
theorem ck_bd {sq : Int} {x : Inf} (h : x.Ok) : 0 ≤ makeC keyC tupC sq 1000 x ∧ makeC keyC tupC sq 1000 x ≤ 4294967295 := by
  rw [make_ok h]
  have h1 := says_bd h
  obtain ⟨h2, h3⟩ := hashOf_bd keyC_ok tupC sq (1000 / 64)
  unfold topOf
  generalize hashOf keyC tupC sq (1000 / 64) = q at *
  omega
theorem ck_fresh {sq th : Int} {x : Inf} (h : x.Ok) (h0 : 1000 ≤ th) (h1 : th ≤ 1064) : checkI keyC tupC sq th (makeC keyC tupC sq 1000 x) = x ∧ checkE keyC tupC sq th (makeC keyC tupC sq 1000 x) = 0 := by
  have hs := says_bd h
  have hf : fresh keyC tupC sq th (makeC keyC tupC sq 1000 x) = true := fresh_of (tk := 1000) (by omega) h0 (by omega) (by
    rw [make_ok h]
    unfold topOf
    generalize hashOf keyC tupC sq (1000 / 64) / 4294967296 / 256 = q
    omega)
  obtain ⟨h2, h3⟩ := check_fresh hf
  refine ⟨?_, h3⟩
  rw [h2, make_ok h]
  exact told_says h _
theorem ck_stale {o th ck : Int} (h0 : 1000 ≤ th) (h1 : hashOf keyC tupC o (th / 64) / 1099511627776 ≠ ck / 256) (h2 : hashOf keyC tupC o (th / 64 - 1) / 1099511627776 ≠ ck / 256) : checkI keyC tupC o th ck = ⟨0, false, 0⟩ ∧ checkE keyC tupC o th ck = 25 := by
  have e1 : isAt keyC tupC o (th / 64) ck = false := by rw [← isAt_eq2 keyC_ok]; simpa using h1
  have e2 : isAt keyC tupC o (th / 64 - 1) ck = false := by rw [← isAt_eq2 keyC_ok]; simpa using h2
  have hf : fresh keyC tupC o th ck = false := by unfold fresh; rw [e1, e2]; simp
  unfold checkI checkE
  rw [hf]
  exact ⟨rfl, rfl⟩
theorem cls_bd (m : Int) : 0 ≤ clsI m ∧ clsI m ≤ 7 := by unfold clsI; (repeat' split) <;> omega
theorem szE_cls (m : Int) : szE (clsI m) = 0 := by
  have := cls_bd m
  unfold szE
  rw [if_pos this]
theorem sz_le {m : Int} (h : clsB m = true) : szI (clsI m) ≤ m ∧ szE (clsI m) = 0 := by
  have h := of_decide_eq_true h
  refine ⟨?_, szE_cls m⟩
  unfold clsI
  (repeat' split) <;> first | (show (1460 : Int) ≤ m; omega) | (show (1440 : Int) ≤ m; omega) | (show (1360 : Int) ≤ m; omega) | (show (1220 : Int) ≤ m; omega) | (show (1024 : Int) ≤ m; omega) | (show (536 : Int) ≤ m; omega) | (show (216 : Int) ≤ m; omega) | (show (88 : Int) ≤ m; omega)
theorem szI_bd (m : Int) : 0 ≤ szI (clsI m) ∧ szI (clsI m) ≤ 65535 := by
  unfold clsI szI
  (repeat' split) <;> (try omega) <;> simp [tab]
/-- two bytes, put together again -/
theorem two_bytes {m : Int} (h0 : 0 ≤ m) (h1 : m ≤ 65535) : Ev.opI .or .u16 (Ev.opI .shl .u16 (IntKind.u16.wrap (IntKind.u8.wrap (Ev.opI .shr .u16 m 8))) 8) (IntKind.u16.wrap (IntKind.u8.wrap m)) = m := by
  have e1 : Ev.opI .shr .u16 m 8 = m / 256 := Int.fdiv_eq_ediv_of_nonneg m (by decide)
  rw [e1]
  have e2 : IntKind.u16.wrap (IntKind.u8.wrap (m / 256)) = m / 256 := by simp only [IntKind.wrap_u16, IntKind.wrap_u8]; omega
  have e3 : IntKind.u16.wrap (IntKind.u8.wrap m) = m % 256 := by simp only [IntKind.wrap_u16, IntKind.wrap_u8]; omega
  have e4 : Ev.opI .shl .u16 (m / 256) 8 = m / 256 * 256 := by
    show IntKind.u16.wrap (m / 256 * 256) = _
    simp only [IntKind.wrap_u16]; omega
  rw [e2, e3, e4]
  show IntKind.u16.wrap (.ofNat (Nat.lor (Ev.umod (m / 256 * 256) 65536) (Ev.umod (m % 256) 65536))) = m
  have u1 : Ev.umod (m / 256 * 256) 65536 = (m / 256).toNat <<< 8 := by
    have := Ev.umod_eq (m / 256 * 256) 65536 (by decide)
    rw [Nat.shiftLeft_eq]
    omega
  have u2 : Ev.umod (m % 256) 65536 = (m % 256).toNat := by
    have := Ev.umod_eq (m % 256) 65536 (by decide)
    omega
  rw [u1, u2]
  have h3 : Nat.lor ((m / 256).toNat <<< 8) (m % 256).toNat = (m / 256).toNat <<< 8 + (m % 256).toNat := (Nat.shiftLeft_add_eq_or_of_lt (show (m % 256).toNat < 2 ^ 8 by omega) _).symm
  rw [h3, Nat.shiftLeft_eq]
  simp only [IntKind.wrap_u16]
  show (((((m / 256).toNat * 2 ^ 8 + (m % 256).toNat : Nat)) : Int)) % 65536 = m
  omega
theorem shr40 (h : Int) : Ev.opI .shr .u64 h 40 = h / 1099511627776 := Int.fdiv_eq_ediv_of_nonneg h (by decide)
theorem shr8 {c : Int} (h0 : 0 ≤ c) (h1 : c ≤ 4294967295) : IntKind.u64.wrap (Ev.opI .shr .u32 c 8) = c / 256 := by
  have e : Ev.opI .shr .u32 c 8 = c / 256 := Int.fdiv_eq_ediv_of_nonneg c (by decide)
  rw [e]
  simp only [IntKind.wrap_u64]
  omega
end Go.Proofs.YtocnkiojlifgpaaGreatDoor
