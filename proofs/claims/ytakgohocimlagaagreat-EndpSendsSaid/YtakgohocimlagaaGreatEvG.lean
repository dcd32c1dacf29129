/-
  An evaluator over plain data (7): operations that read one block, or make one: their evaluation is the model's run. Of no program. No condition.
-/
import Derived.Test.YtakgohocimlagaaGreatEvF
import Derived.Laws.BytesString
namespace Go.Proofs.YtakgohocimlagaaGreat
namespace Ev
variable [E : Inhabited EnvT]
set_option linter.unusedVariables false
set_option linter.unusedSectionVars false
set_option linter.unusedSimpArgs false
open Go.RowKit

section
variable {P : Program} {ρ : Mp} {ev : Operand → Value}

/-! ### cells, at the run -/
theorem cell_at {w : World} {B o : Nat} {c : Array Value} {el : TypeId} {fz : Nat × Nat} (h : w.heap[B]? = some (.cells c el fz)) : w.cell? ⟨B, o, none⟩ = c[o]? := by
  simp [World.cell?, h]
theorem load_at {w : World} {B o : Nat} {c : Array Value} {el : TypeId} {fz : Nat × Nat} {v : Value} (h : w.heap[B]? = some (.cells c el fz)) (hv : c[o]? = some v) :
    (load ⟨B, o, none⟩).run P w = .ok v w := by
  rw [run_load, cell_at h, hv]
theorem loadsF_at {w : World} {B o : Nat} {c : Array Value} {el : TypeId} {fz : Nat × Nat} (h : w.heap[B]? = some (.cells c el fz)) : ∀ (n i : Nat) (acc : Array Value),
    o + i + n ≤ c.size → (loadCellsFrom ⟨B, o, none⟩ i n acc).run P w = .ok (acc ++ ⟨(c.toList.drop (o + i)).take n⟩) w
  | 0, i, acc, hle => by simp [loadCellsFrom]
  | n + 1, i, acc, hle => by
    have hlt : o + i < c.size := by omega
    simp only [loadCellsFrom, Sem.run_bind, addr_add]
    rw [load_at h (Array.getElem?_eq_getElem hlt)]
    simp only [Result.andThen_ok]
    rw [loadsF_at h n (i + 1) _ (by omega)]
    congr 1
    apply Array.toList_inj.1
    have hd : c.toList.drop (o + i) = c[o + i] :: c.toList.drop (o + i + 1) := by
      rw [List.drop_eq_getElem_cons (by simpa using hlt)]; simp
    simp [hd, Nat.add_assoc]
theorem loads_at {w : World} {B o n : Nat} {c : Array Value} {el : TypeId} {fz : Nat × Nat} (h : w.heap[B]? = some (.cells c el fz)) (hle : o + n ≤ c.size) :
    (loadCells ⟨B, o, none⟩ n).run P w = .ok ⟨(c.toList.drop o).take n⟩ w := by
  unfold loadCells
  rw [loadsF_at h n 0 _ (by omega)]
  simp

/-- the cells of a row, read -/
theorem row_cells {cs : List AV} {Cs : List Value} {c : Array Value} {dl off n : Nat} (hR : Rs ρ cs Cs) (hc : ∀ i, i < cs.length → c[dl + i]? = Cs[i]?) (hn : off + n ≤ cs.length) :
    (c.toList.drop (dl + off)).take n = (Cs.drop off).take n := by
  apply List.ext_getElem?
  intro i
  rw [List.getElem?_take, List.getElem?_take, List.getElem?_drop, List.getElem?_drop]
  split
  · rename_i hi
    have := hc (off + i) (by omega)
    rw [Array.getElem?_toList, ← this, Nat.add_assoc]
  · rfl

/-! ### reads -/
inductive KC where
  | i
  | s
  | b

inductive LK where
  | ld (sz : Nat) (agg : Bool)
  | toStr
  | lenM
  | look (c : KC) (zero : AV) (ok : Bool)

def keyEq : KC → AV → AV → Option Bool
  | .i, .int k a, .int k' b => if k = k' then some (a == b) else none
  | .s, .str a, .str b => some (beqL a b)
  | .b, .bool a, .bool b => some (a == b)
  | _, _, _ => none
def findA (c : KC) (k : AV) : List (AV × AV × Nat) → Nat → Option (Option (Nat × AV))
  | [], _ => some none
  | (x, v, _) :: r, i => match keyEq c k x with
    | some true => some (some (i, v))
    | some false => findA c k r (i + 1)
    | none => none
def bytesA : List AV → Option (List Nat)
  | [] => some []
  | .int .u8 n :: r => match bytesA r with
    | some l => some (n.toNat :: l)
    | none => none
  | _ => none
def tgt (k : LK) (vs : List AV) : Option Nat := match k, vs with
  | .ld _ _, [.ptr id _] => some id
  | .toStr, [.sl id _ _ _] => some id
  | .lenM, [.map id] => some id
  | .look _ _ _, [.map id, _] => some id
  | _, _ => none
def execL (k : LK) (vs : List AV) (o : AO) : Option AV := match k, vs with
  | .ld sz agg, [.ptr _ off] => match o with
    | .row cs _ => match agg with
      | true => match Nat.ble (off + sz) cs.length with
        | true => some (.agg ((cs.drop off).take sz))
        | false => none
      | false => cs[off]?
    | _ => none
  | .toStr, [.sl _ off len _] => match o with
    | .row cs _ => match Nat.ble (off + len) cs.length with
      | true => match bytesA ((cs.drop off).take len) with
        | some l => some (.str l)
        | none => none
      | false => none
    | _ => none
  | .toStr, [.nils] => some (.str [])
  | .lenM, [.map _] => match o with
    | .map es _ => some (.int .i64 (.ofNat es.length))
    | _ => none
  | .lenM, [.nilm] => some (.int .i64 (.ofNat 0))
  | .look c z ok, [.map _, k] => match o with
    | .map es _ => match findA c k es 0 with
      | some (some (_, v)) => some (match ok with | true => .tup [v, .bool true] | false => v)
      | some none => some (match ok with | true => .tup [z, .bool false] | false => z)
      | none => none
    | _ => none
  | .look c z ok, [.nilm, k] => some (match ok with | true => .tup [z, .bool false] | false => z)
  | _, _ => none

def keyOk (d : TypeDesc) : Option KC := match d with
  | .int _ => some .i
  | .string => some .s
  | .bool => some .b
  | _ => none
def zeroV (P : Program) (t : TypeId) : Option AV := match P.info? t with
  | some i => match i.zero with
    | some z => ofConst z
    | none => none
  | none => none
def compL (P : Program) : Op → Option (LK × List Operand)
  | .load t a => match P.underlying t, P.info? t with
    | some d, some i => some (.ld i.size (isAggD d), [a])
    | _, _ => none
  | .convert s d x => match P.underlying s, P.underlying d with
    | some (.slice e), some .string => match P.underlying e with
      | some (.int .u8) => some (.toStr, [x])
      | _ => none
    | _, _ => none
  | .lookup t x k ok => match P.underlying t with
    | some (.map kt et) => match P.underlying kt, zeroV P et with
      | some d, some z => match keyOk d with
        | some c => some (.look c z ok, [x, k])
        | none => none
      | _, _ => none
    | _ => none
  | .call c => match c.callee with
    | .builtin .len => match c.argTypes[0]? with
      | some t => match P.underlying t with
        | some (.map _ _) => some (.lenM, c.args.toList)
        | _ => none
      | none => none
    | _ => none
  | _ => none

theorem ld_gives {w : World} {t : TypeId} {d : TypeDesc} {i : TypeInfo} {X : Value} {vs : List AV} {o : AO} {v : AV} (hd : P.underlying t = some d) (hi : P.info? t = some i)
    (hx : execL (.ld i.size (isAggD d)) vs o = some v) (hR : Rs ρ vs [X])
    (hm : ∀ id, tgt (.ld i.size (isAggD d)) vs = some id → ∃ e x, ρ id = some e ∧ w.heap[e.blk]? = some x ∧ Rel ρ o e x) :
    ∃ V, R ρ v V ∧ (Instr.loadAt t X).run P w = .ok V w := by
  obtain ⟨y, rfl, hy⟩ := Rs1 hR
  cases y <;> simp only [execL, reduceCtorEq] at hx
  rename_i id off
  cases o <;> simp only [reduceCtorEq] at hx
  rename_i cs ext
  obtain ⟨e, x, he, hx0, hrel⟩ := hm id rfl
  obtain ⟨c, el, fz, Cs, rfl, hRs, hcell, hsz, hle, _, _⟩ := hrel
  cases hy with
  | ptr he' =>
    rw [he] at he'; cases he'
    unfold Instr.loadAt loadVar
    simp only [Instr.sureAddr, Sem.run_bind, Sem.run_pure, Result.andThen_ok, r_agg hd]
    cases hA : isAggD d with
    | true =>
      simp only [hA] at hx
      split at hx
      · rename_i hb
        have hb := Nat.le_of_ble_eq_true hb
        cases hx
        refine ⟨_, .agg (Rs.take i.size (Rs.drop off hRs)), ?_⟩
        simp only [if_true, Sem.run_bind, r_size hi, Result.andThen_ok]
        rw [loads_at hx0 (by omega)]
        simp only [Result.andThen_ok, Sem.run_pure]
        rw [row_cells hRs hcell hb]
      · cases hx
    | false =>
      simp only [hA] at hx
      obtain ⟨V, hV, hRV⟩ := Rs.get hRs hx
      refine ⟨V, hRV, ?_⟩
      have hlt : off < cs.length := by
        rcases Nat.lt_or_ge off cs.length with h | h
        · exact h
        · rw [List.getElem?_eq_none h] at hx; cases hx
      simp only [Bool.false_eq_true, if_false]
      exact load_at hx0 (by rw [hcell off hlt, hV])

theorem bytesA_rel : ∀ {cs : List AV} {Cs : List Value} {l : List Nat}, bytesA cs = some l → Rs ρ cs Cs → ∃ ns : List Int, Cs = ns.map (Value.int .u8) ∧ l = ns.map Int.toNat
  | [], _, l, h, hR => by cases hR; simp only [bytesA, Option.some.injEq] at h; subst h; exact ⟨[], rfl, rfl⟩
  | v :: r, _, l, h, hR => by
    cases hR with
    | cons hv hs =>
      cases v <;> (try (simp only [bytesA, reduceCtorEq] at h; done))
      rename_i k n
      cases k <;> (try (simp only [bytesA, reduceCtorEq] at h; done))
      simp only [bytesA] at h
      split at h
      · rename_i l' hl'
        cases h; cases hv
        obtain ⟨ns, h1, h2⟩ := bytesA_rel hl' hs
        exact ⟨n :: ns, by simp [h1], by simp [h2]⟩
      · cases h
theorem push_bs : ∀ (ns : List Int) (acc : ByteArray), ns.foldl (fun r n => r.push (UInt8.ofNat n.toNat)) acc = acc ++ bs (ns.map Int.toNat)
  | [], acc => by simp only [List.foldl_nil, List.map_nil]; apply ByteArray.ext; simp [bs]
  | n :: r, acc => by
    simp only [List.foldl_cons]
    rw [push_bs r]
    apply ByteArray.ext
    simp [bs]
theorem toStr_gives {w : World} {s d e : TypeId} {X : Value} {vs : List AV} {o : AO} {v : AV} (hs : P.underlying s = some (.slice e)) (he : P.underlying e = some (.int .u8)) (hd : P.underlying d = some .string)
    (hx : execL .toStr vs o = some v) (hR : Rs ρ vs [X])
    (hm : ∀ id, tgt .toStr vs = some id → ∃ e x, ρ id = some e ∧ w.heap[e.blk]? = some x ∧ Rel ρ o e x) :
    ∃ V, R ρ v V ∧ (convert s d X).run P w = .ok V w := by
  obtain ⟨y, rfl, hy⟩ := Rs1 hR
  cases y <;> simp only [execL, reduceCtorEq, Option.some.injEq] at hx
  · subst hx; cases hy
    refine ⟨_, .str _, ?_⟩
    rw [run_convert_bytes_string w s d e _ 0 0 hs he hd]
    simp [Conv.bytesToString]; rfl
  · rename_i id off len cap
    cases o <;> simp only [reduceCtorEq] at hx
    rename_i cs ext
    obtain ⟨e', x, he', hx0, hrel⟩ := hm id rfl
    obtain ⟨c, el, fz, Cs, rfl, hRs, hcell, hsz, hle, _, _⟩ := hrel
    split at hx <;> (try cases hx)
    rename_i hb
    have hb := Nat.le_of_ble_eq_true hb
    split at hx <;> cases hx
    rename_i l hl
    obtain ⟨ns, hns, rfl⟩ := bytesA_rel hl (Rs.take len (Rs.drop off hRs))
    have fin : ∀ a cp, (loadCells a len).run P w = .ok (ns.map (Value.int .u8)).toArray w →
        (convert s d (.slice (some a) len cp)).run P w = .ok (.string (bs (ns.map Int.toNat))) w := fun a cp h => by
      rw [run_convert_bytes_string w s d e _ _ _ hs he hd, run_bytesToString w a len cp ns h, push_bs]
      congr 2
    cases hy with
    | sl he2 hl2 =>
      rw [he'] at he2; cases he2
      refine ⟨_, .str _, fin _ _ ?_⟩
      rw [loads_at hx0 (by omega), row_cells hRs hcell hb, hns]
    | sl0 he2 =>
      refine ⟨_, .str _, fin _ _ ?_⟩
      have : ns = [] := by
        have := congrArg List.length hns
        simp at this; exact List.length_eq_zero_iff.1 this.symm
      subst this
      rfl
theorem lenM_gives {w : World} {t kt et rt : TypeId} {ts : Array TypeId} {cs : Array Bool} {args : Array Operand} {vs : List AV} {o : AO} {v : AV} (ht : ts[0]? = some t) (hu : P.underlying t = some (.map kt et))
    (hx : execL .lenM vs o = some v) (hR : Rs ρ vs (args.toList.map ev))
    (hm : ∀ id, tgt .lenM vs = some id → ∃ e x, ρ id = some e ∧ w.heap[e.blk]? = some x ∧ Rel ρ o e x) :
    ∃ V, R ρ v V ∧ (builtin .len ts rt cs (args.map ev)).run P w = .ok (.value V) w := by
  cases vs with
  | nil => simp only [execL, reduceCtorEq] at hx
  | cons y r =>
    cases y <;> cases r <;> simp only [execL, Option.some.injEq, reduceCtorEq] at hx
    · subst hx
      obtain ⟨X, hX, hR1⟩ := args_one hR rfl
      cases hR1
      refine ⟨_, .int _ _, ?_⟩
      unfold builtin Builtin.len_
      simp [ht, hX, r_und hu, goInt]
    · rename_i id
      cases o <;> simp only [reduceCtorEq, Option.some.injEq] at hx
      subst hx
      obtain ⟨e', x, he', hx0, hrel⟩ := hm id rfl
      obtain ⟨Es, rfl, hEs⟩ := hrel
      obtain ⟨X, hX, hR1⟩ := args_one hR rfl
      cases hR1 with
      | map he2 =>
        rw [he'] at he2; cases he2
        refine ⟨_, .int _ _, ?_⟩
        unfold builtin Builtin.len_
        have hl : ∀ {es : List (AV × AV × Nat)} {Es : List MapEntry}, REs ρ es Es → es.length = Es.length := by
          intro es Es h; induction h <;> simp [*]
        simp [ht, hX, r_und hu, goInt, getObj, Sem.run, hx0, hl hEs]
/-! ### a key in a map -/
theorem keyEq_ok {d : TypeDesc} {kc : KC} (hd : keyOk d = some kc) {k x : AV} {K X : Value} {b : Bool} (h : keyEq kc k x = some b) (hk : R ρ k K) (hx : R ρ x X) : Instr.sameNow d K X = some b := by
  unfold keyOk at hd
  split at hd <;> cases hd <;> cases k <;> cases x <;> simp only [keyEq, reduceCtorEq] at h <;> cases hk <;> cases hx
  · split at h <;> cases h
    rename_i hkk
    simp [Instr.sameNow, hkk]
  · cases h
    simp only [Instr.sameNow, beqL_eq]
    rw [beq_toListBytes]
  · cases h
    simp [Instr.sameNow]
theorem findA_ok {d : TypeDesc} {kc : KC} (hd : keyOk d = some kc) {k : AV} {K : Value} (hk : R ρ k K) : ∀ {es : List (AV × AV × Nat)} {Es : List MapEntry} {i : Nat} {r : Option (Nat × AV)},
    findA kc k es i = some r → REs ρ es Es → match r with
      | none => Instr.findNow d K Es i = some none
      | some (j, v) => ∃ V, R ρ v V ∧ Instr.findNow d K Es i = some (some (j, V)) ∧ i ≤ j ∧ j - i < es.length
  | [], _, i, r, h, hE => by cases hE; simp only [findA, Option.some.injEq] at h; subst h; rfl
  | (x, v, b) :: es, _, i, r, h, hE => by
    cases hE with
    | cons hx hv hs =>
      simp only [findA] at h
      split at h
      · rename_i hq
        cases h
        simp only [Instr.findNow, keyEq_ok hd hq hk hx]
        exact ⟨_, hv, rfl, Nat.le_refl _, by simp⟩
      · rename_i hq
        have := findA_ok hd hk h hs
        simp only [Instr.findNow, keyEq_ok hd hq hk hx]
        cases r with
        | none => exact this
        | some p =>
          obtain ⟨V, h1, h2, h3, h4⟩ := this
          exact ⟨V, h1, h2, by omega, by simp; omega⟩
      · cases h
theorem checkKey_ok {d : TypeDesc} {kc : KC} {kt : TypeId} (hu : P.underlying kt = some d) (hd : keyOk d = some kc) (e : Bool) (K : Value) (w : World) :
    (Instr.checkKey e 10000 kt K).run P w = .ok () w := by
  unfold Instr.checkKey
  simp only [Sem.run_bind, r_und hu, Result.andThen_ok]
  unfold keyOk at hd
  split at hd <;> cases hd <;> rfl
theorem findKey_ok {d : TypeDesc} {kt : TypeId} (hu : P.underlying kt = some d) {K : Value} {Es : List MapEntry} {r : Option (Nat × Value)} (h : Instr.findNow d K Es 0 = some r) (w : World) :
    (Instr.findKey kt K Es).run P w = .ok r w := by
  unfold Instr.findKey
  simp only [Sem.run_bind, r_und hu, Result.andThen_ok, h, Sem.run_pure]
theorem zeroV_ok {t : TypeId} {z : AV} (h : zeroV P t = some z) : ∃ Z, R ρ z Z ∧ ∀ w, (zeroValue t).run P w = .ok Z w := by
  unfold zeroV at h
  split at h
  · rename_i i hi
    split at h
    · rename_i zv hz; exact ⟨zv, R_ofConst h, fun w => r_zero hi hz⟩
    · cases h
  · cases h
theorem getMap_run {w : World} {B : Nat} {Es : List MapEntry} {cl : Nat} (h : w.heap[B]? = some (.map ⟨Es⟩ cl)) : (getObj B).run P w = .ok (.map ⟨Es⟩ cl) w := by
  simp [getObj, Sem.run, h]
theorem noKey {ok : Bool} {z : AV} {Z : Value} (hZ : R ρ z Z) : R ρ (match ok with | true => AV.tup [z, .bool false] | false => z) (match ok with | true => Value.tuple #[Z, .bool false] | false => Z) := by
  cases ok
  · exact hZ
  · exact .tup (.cons hZ (.cons (.bool _) .nil))
theorem look_gives {w : World} {t kt et : TypeId} {d : TypeDesc} {kc : KC} {z : AV} {X K : Value} {ok : Bool} {vs : List AV} {o : AO} {v : AV} (ht : P.underlying t = some (.map kt et)) (hu : P.underlying kt = some d)
    (hd : keyOk d = some kc) (hz : zeroV P et = some z) (hx : execL (.look kc z ok) vs o = some v) (hR : Rs ρ vs [X, K])
    (hm : ∀ id, tgt (.look kc z ok) vs = some id → ∃ e x, ρ id = some e ∧ w.heap[e.blk]? = some x ∧ Rel ρ o e x) :
    ∃ V, R ρ v V ∧ (Instr.lookup t X K ok).run P w = .ok V w := by
  obtain ⟨y, k, rfl, hy, hk⟩ := Rs2 hR
  obtain ⟨Z, hZ, hzr⟩ := zeroV_ok (ρ := ρ) hz
  cases y <;> simp only [execL, reduceCtorEq, Option.some.injEq] at hx
  · subst hx; cases hy
    refine ⟨_, noKey hZ, ?_⟩
    unfold Instr.lookup
    have hf := findKey_ok (P := P) hu (K := K) (Es := []) (r := none) rfl w
    simp only [Sem.run_bind, r_und ht, Result.andThen_ok, Sem.run_pure, checkKey_ok hu hd, hf, hzr]
    cases ok <;> rfl
  · rename_i id
    cases o <;> simp only [reduceCtorEq] at hx
    rename_i es cl
    obtain ⟨e', x, he', hx0, hrel⟩ := hm id rfl
    obtain ⟨Es, rfl, hEs⟩ := hrel
    cases hy with
    | map he2 =>
      rw [he'] at he2; cases he2
      split at hx
      · rename_i j u hf
        obtain ⟨V, hV, hfn, _, _⟩ := findA_ok hd hk hf hEs
        have hf := findKey_ok (P := P) hu hfn w
        cases ok
        · cases hx
          refine ⟨V, hV, ?_⟩
          unfold Instr.lookup
          simp only [Sem.run_bind, r_und ht, Result.andThen_ok, getMap_run hx0, Sem.run_pure, checkKey_ok hu hd, hf]
          rfl
        · cases hx
          refine ⟨_, .tup (.cons hV (.cons (.bool _) .nil)), ?_⟩
          unfold Instr.lookup
          simp only [Sem.run_bind, r_und ht, Result.andThen_ok, getMap_run hx0, Sem.run_pure, checkKey_ok hu hd, hf]
          rfl
      · rename_i hf
        have hfn := findA_ok hd hk hf hEs
        have hf := findKey_ok (P := P) hu hfn w
        cases hx
        refine ⟨_, noKey hZ, ?_⟩
        unfold Instr.lookup
        simp only [Sem.run_bind, r_und ht, Result.andThen_ok, getMap_run hx0, Sem.run_pure, checkKey_ok hu hd, hf, hzr]
        cases ok <;> rfl
      · cases hx

/-- ALL READS. -/
theorem compL_gives {w : World} {o : Oper} {lk : LK} {xs : List Operand} {vs : List AV} {ob : AO} {v : AV} (hc : compL P o.op = some (lk, xs)) (hx : execL lk vs ob = some v) (hR : Rs ρ vs (xs.map ev))
    (hm : ∀ id, tgt lk vs = some id → ∃ e x, ρ id = some e ∧ w.heap[e.blk]? = some x ∧ Rel ρ ob e x) :
    ∃ V, R ρ v V ∧ (execOp ev o).run P w = .ok (.value V) w := by
  have fin : ∀ {s : Sem Value} {V : Value}, s.run P w = .ok V w → (do pure (.value (← s)) : Sem Next).run P w = .ok (.value V) w := fun h => by simp [h]
  unfold execOp
  cases hop : o.op <;> rw [hop] at hc <;> simp only [] <;> (try (simp only [compL, reduceCtorEq] at hc; done))
  case load t a =>
    simp only [compL] at hc
    split at hc <;> cases hc
    rename_i d i hd hi
    obtain ⟨V, hV, hr⟩ := ld_gives hd hi hx hR hm
    exact ⟨V, hV, fin hr⟩
  case convert s d x =>
    simp only [compL] at hc
    split at hc <;> (try cases hc)
    rename_i e hs hd
    split at hc <;> cases hc
    rename_i he
    obtain ⟨V, hV, hr⟩ := toStr_gives hs he hd hx hR hm
    exact ⟨V, hV, fin hr⟩
  case lookup t x k ok =>
    simp only [compL] at hc
    split at hc <;> (try cases hc)
    rename_i kt et ht
    split at hc <;> (try cases hc)
    rename_i d z hu hz
    split at hc <;> cases hc
    rename_i kc hd
    obtain ⟨V, hV, hr⟩ := look_gives ht hu hd hz hx hR hm
    exact ⟨V, hV, fin hr⟩
  case call c =>
    simp only [compL] at hc
    split at hc <;> (try cases hc)
    rename_i hb
    split at hc <;> (try cases hc)
    rename_i t ht
    split at hc <;> cases hc
    rename_i kt et hu
    obtain ⟨V, hV, hr⟩ := lenM_gives (rt := o.type) (cs := c.args.map fun | .const _ => true | _ => false) ht hu hx hR hm
    refine ⟨V, hV, ?_⟩
    rw [call_builtin hb]; exact hr
end
end Ev
end Go.Proofs.YtakgohocimlagaaGreat
