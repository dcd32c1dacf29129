/-
  The tables of known calls of package conn, and the helper law awake, reckoned by the evaluator. Condition: the library's variables and the cookies' classes lie as listed. Printed by program.
-/
import Derived.Test.YtocnkiojlifgpaaGreatDoorCnA
import Derived.Test.YtocnkiojlifgpaaGreatDoorCnR
import Derived.Test.YtocnkiojlifgpaaGreatDoorCookieM
import Derived.Test.YtocnkiojlifgpaaGreatDoorCookieK
namespace Go.Proofs.YtocnkiojlifgpaaGreatDoor
open Go.RowKit Go.Lib
set_option linter.unusedVariables false
set_option linter.unusedSimpArgs false

/-- the listed variables lie as listed -/
structure CW (w : World) : Prop where
  lw : LW w
  cl : Laid w
theorem keeps_heap {W w : World} (ho : ∀ b, b < W.heap.size → w.heap[b]? = W.heap[b]?) (hb : W.heap.size ≤ w.heap.size) : Keeps [] W { W with heap := w.heap } := ⟨rfl, rfl, rfl, hb, fun j hj _ => ho j hj⟩
theorem LW.heap {W w : World} (h : LW W) (ho : ∀ b, b < W.heap.size → w.heap[b]? = W.heap[b]?) (hb : W.heap.size ≤ w.heap.size) : LW w := by
  have h' := h.keep0 (keeps_heap ho hb)
  exact ⟨h'.maxl, h'.case, h'.utf8⟩
theorem Laid.heap {W w : World} (h : Laid W) (ho : ∀ b, b < W.heap.size → w.heap[b]? = W.heap[b]?) (hb : W.heap.size ≤ w.heap.size) : Laid w := by
  have h' := h.keep (keeps_heap ho hb)
  exact h'
theorem CW.heap {W w : World} (h : CW W) (ho : ∀ b, b < W.heap.size → w.heap[b]? = W.heap[b]?) (hb : W.heap.size ≤ w.heap.size) : CW w := ⟨h.lw.heap ho hb, h.cl.heap ho hb⟩
theorem bytesCells_get (W : World) (e : TypeId) (l : List UInt8) (b : List Nat) (hb : l.map UInt8.toNat = b) (i x : Nat) (h : b[i]? = some x) : (bytesCells W e (bs l))[i]? = some (.int .u8 (x : Int)) := by
  subst hb
  rw [List.getElem?_map] at h
  obtain ⟨y, hy, rfl⟩ := Option.map_eq_some_iff.1 h
  have hi : i < l.length := (List.getElem?_eq_some_iff.1 hy).1
  have hd : (bs l).data = l.toArray := rfl
  unfold bytesCells
  rw [hd, Array.getElem?_append_left (by simpa using hi)]
  simp [hy]
theorem bytesCells_size (W : World) (e : TypeId) (s : ByteArray) : (bytesCells W e s).size = grownCap W s.size 0 e := by
  have h := grownCap_ge W s.size 0 e
  unfold bytesCells
  simp only [Array.size_append, Array.size_map, Array.size_replicate]
  have : s.data.size = s.size := rfl
  omega
theorem bytesWorld_keeps (W : World) (e : TypeId) (s : ByteArray) : Keeps [] W (bytesWorld W e s) := Below.keeps ⟨rfl, rfl, rfl, by rw [bytesWorld_size]; omega, fun j hj => bytesWorld_at_old W _ s j hj⟩

def reqHab : List Nat := [71, 69, 84, 32, 47, 32, 72, 84, 84, 80, 47, 49, 46, 49, 13, 10, 72, 111, 115, 116, 58, 32, 97, 46, 98, 13, 10, 13, 10]
set_option maxRecDepth 100000 in
theorem reqHab_eq : (reqA [97, 46, 98]).map UInt8.toNat = reqHab := by kernel_rfl
set_option maxRecDepth 100000 in
theorem foldHab : (foldA [97, 46, 98]).isSome = true := by kernel_rfl
set_option maxRecDepth 100000 in
theorem lookHab : lookH (reqHab.map UInt8.ofNat) = (1, [97, 46, 98]) := by kernel_rfl

def reqHa : List Nat := [71, 69, 84, 32, 47, 32, 72, 84, 84, 80, 47, 49, 46, 49, 13, 10, 72, 111, 115, 116, 58, 32, 97, 13, 10, 13, 10]
set_option maxRecDepth 100000 in
theorem reqHa_eq : (reqA [97]).map UInt8.toNat = reqHa := by kernel_rfl
set_option maxRecDepth 100000 in
theorem foldHa : (foldA [97]).isSome = true := by kernel_rfl
set_option maxRecDepth 100000 in
theorem lookHa : lookH (reqHa.map UInt8.ofNat) = (1, [97]) := by kernel_rfl

def reqT : List (List Ev.AV × List Nat × Ev.AV) := [([.str [97, 46, 98], .nils], reqHab, .int .i64 0), ([.str [97], .nils], reqHa, .int .i64 0)]
def lookT : List (List Nat × List Ev.AV × Ev.AV) := [(reqHab, [], .tup [.int .i64 1, .str [97, 46, 98]]), (reqHa, [], .tup [.int .i64 1, .str [97]])]
def classT : List (List Ev.AV × Ev.AV) := [([.int .u16 1460], .tup [.int .i64 7, .bool true]), ([.int .u16 1000], .tup [.int .i64 2, .bool true]), ([.int .u16 87], .tup [.int .i64 0, .bool false]), ([.int .u16 536], .tup [.int .i64 2, .bool true])]
def sizeT : List (List Ev.AV × Ev.AV) := [([.int .i64 7], .tup [.int .u16 1460, .int .i64 0]), ([.int .i64 2], .tup [.int .u16 536, .int .i64 0])  ]
theorem req_one [E : Inhabited Ev.EnvT] (w : World) (hw : LW w) (h0 : UInt8) (host : List UInt8) (b : List Nat) (hb : (reqA (h0 :: host)).map UInt8.toNat = b) (hf : (foldA (h0 :: host)).isSome = true) (hl : host.length ≤ 252) :
    Calls Tryz.prog 8 #[.string (bs (h0 :: host)), .slice none 0 0] w fun e w' => ∃ (g cap : Nat) (el : TypeId) (cs : Array Value) (fz : Nat × Nat) (V : Value), e = .returned (.tuple #[.slice (some ⟨g, 0, none⟩) b.length cap, V]) ∧ (∀ ρ', Ev.R ρ' (.int .i64 0) V) ∧ Below w.heap.size w w' ∧ w.heap.size ≤ g ∧ w'.heap[g]? = some (.cells cs el fz) ∧ Ev.FzOk cs.size fz ∧ cs.size = cap ∧ b.length ≤ cap ∧ ∀ (i x : Nat), b[i]? = some x → cs[i]? = some (.int .u8 (x : Int)) := by
  refine (request_new w hw h0 host hf hl).mono ?_
  rintro e w' ⟨W, k, rfl, rfl⟩
  have hs : (bs (reqA (h0 :: host))).size = b.length := by rw [← hb, List.length_map]; rfl
  refine ⟨W.heap.size, _, 5, bytesCells W 5 (bs (reqA (h0 :: host))), _, .int .i64 0, by rw [hs], fun _ => .int _ _, (k.trans (bytesWorld_keeps W _ _)).below (Nat.le_refl _) (by simp), k.size, bytesWorld_at_new W _ _, .inr (Nat.le_refl _), ?_, ?_, bytesCells_get W _ _ b hb⟩
  · rw [bytesCells_size, hs]
  · exact grownCap_ge _ _ _ _
theorem req_good [E : Inhabited Ev.EnvT] (hC : ∀ w : World, (∀ b, b < E.default.base → w.heap[b]? = E.default.h0 b) → E.default.base ≤ w.heap.size → CW w) : Ev.XGood Tryz.prog Ev.noG 8 (.mk reqT) := by
  refine Ev.mk_good (enters_of Tryz.func8 (by kernel_rfl) rfl) fun a b v hm ρ Vs w hR ho hsz => ?_
  have hw := hC w ho hsz
  unfold reqT at hm
  simp only [List.mem_cons, List.not_mem_nil, or_false, Prod.mk.injEq] at hm
  rcases hm with ⟨rfl, rfl, rfl⟩ | ⟨rfl, rfl, rfl⟩
  · cases hR with
    | cons h1 h2 =>
      cases h1
      cases h2 with
      | cons h3 h4 =>
        cases h3
        cases h4
        exact req_one w hw.lw 97 [46, 98] reqHab reqHab_eq foldHab (by decide)
  · cases hR with
    | cons h1 h2 =>
      cases h1
      cases h2 with
      | cons h3 h4 =>
        cases h3
        cases h4
        exact req_one w hw.lw 97 [] reqHa reqHa_eq foldHa (by decide)
theorem look_good [E : Inhabited Ev.EnvT] (hC : ∀ w : World, (∀ b, b < E.default.base → w.heap[b]? = E.default.h0 b) → E.default.base ≤ w.heap.size → CW w) : Ev.XGood Tryz.prog Ev.noG 223 (.bt lookT) := by
  refine Ev.bt_good (enters_of Tryz.func223 (by kernel_rfl) rfl) fun b a v hm h8 ρ Vs w hR ho hsz A c hc hrow => ?_
  have hw := hC w ho hsz
  unfold lookT at hm
  simp only [List.mem_cons, List.not_mem_nil, or_false, Prod.mk.injEq] at hm
  rcases hm with ⟨rfl, rfl, rfl⟩ | ⟨rfl, rfl, rfl⟩
  · cases hR
    refine (look_row w hw.lw A c reqHab hrow h8 (by decide)).mono ?_
    rintro e w' ⟨rfl, k⟩
    rw [lookHab]
    exact ⟨_, rfl, .tup (.cons (.int _ _) (.cons (.str _) .nil)), k.below (Nat.le_refl _) (by simp)⟩
  · cases hR
    refine (look_row w hw.lw A c reqHa hrow h8 (by decide)).mono ?_
    rintro e w' ⟨rfl, k⟩
    rw [lookHa]
    exact ⟨_, rfl, .tup (.cons (.int _ _) (.cons (.str _) .nil)), k.below (Nat.le_refl _) (by simp)⟩
theorem class_good [E : Inhabited Ev.EnvT] (hC : ∀ w : World, (∀ b, b < E.default.base → w.heap[b]? = E.default.h0 b) → E.default.base ≤ w.heap.size → CW w) : Ev.XGood Tryz.prog Ev.noG 47 (.tab classT) := by
  refine Ev.tab_good (enters_of Tryz.func47 (by kernel_rfl) rfl) fun a v hm ρ Vs w hR ho hsz => ?_
  have hw := hC w ho hsz
  unfold classT at hm
  simp only [List.mem_cons, List.not_mem_nil, or_false, Prod.mk.injEq] at hm
  rcases hm with ⟨rfl, rfl⟩ | ⟨rfl, rfl⟩ | ⟨rfl, rfl⟩ | ⟨rfl, rfl⟩
  · refine Ev.tab_one (As := [.int .u16 1460]) rfl (fun _ => .tup (.cons (.int _ _) (.cons (.bool _) .nil))) hR ((class_any w hw.cl 1460 (by decide) (by decide)).mono ?_)
    rintro e w' ⟨rfl, rfl⟩
    exact ⟨rfl, (Keeps.refl [] w).below (Nat.le_refl _) (by simp)⟩
  · refine Ev.tab_one (As := [.int .u16 1000]) rfl (fun _ => .tup (.cons (.int _ _) (.cons (.bool _) .nil))) hR ((class_any w hw.cl 1000 (by decide) (by decide)).mono ?_)
    rintro e w' ⟨rfl, rfl⟩
    exact ⟨rfl, (Keeps.refl [] w).below (Nat.le_refl _) (by simp)⟩
  · refine Ev.tab_one (As := [.int .u16 87]) rfl (fun _ => .tup (.cons (.int _ _) (.cons (.bool _) .nil))) hR ((class_any w hw.cl 87 (by decide) (by decide)).mono ?_)
    rintro e w' ⟨rfl, rfl⟩
    exact ⟨rfl, (Keeps.refl [] w).below (Nat.le_refl _) (by simp)⟩
  · refine Ev.tab_one (As := [.int .u16 536]) rfl (fun _ => .tup (.cons (.int _ _) (.cons (.bool _) .nil))) hR ((class_any w hw.cl 536 (by decide) (by decide)).mono ?_)
    rintro e w' ⟨rfl, rfl⟩
    exact ⟨rfl, (Keeps.refl [] w).below (Nat.le_refl _) (by simp)⟩
theorem size_good [E : Inhabited Ev.EnvT] (hC : ∀ w : World, (∀ b, b < E.default.base → w.heap[b]? = E.default.h0 b) → E.default.base ≤ w.heap.size → CW w) : Ev.XGood Tryz.prog Ev.noG 54 (.tab sizeT) := by
  refine Ev.tab_good (enters_of Tryz.func54 (by kernel_rfl) rfl) fun a v hm ρ Vs w hR ho hsz => ?_
  have hw := hC w ho hsz
  unfold sizeT at hm
  simp only [List.mem_cons, List.not_mem_nil, or_false, Prod.mk.injEq] at hm
  rcases hm with ⟨rfl, rfl⟩ | ⟨rfl, rfl⟩
  · refine Ev.tab_one (As := [.int .i64 7]) rfl (fun _ => .tup (.cons (.int _ _) (.cons (.int _ _) .nil))) hR ((size_any w hw.cl 7 (by decide) (by decide)).mono ?_)
    rintro e w' ⟨rfl, rfl⟩
    exact ⟨rfl, (Keeps.refl [] w).below (Nat.le_refl _) (by simp)⟩
  · refine Ev.tab_one (As := [.int .i64 2]) rfl (fun _ => .tup (.cons (.int _ _) (.cons (.int _ _) .nil))) hR ((size_any w hw.cl 2 (by decide) (by decide)).mono ?_)
    rintro e w' ⟨rfl, rfl⟩
    exact ⟨rfl, (Keeps.refl [] w).below (Nat.le_refl _) (by simp)⟩

/-- the closed tables -/
def connX : List (Nat × Ev.XK) := [(203, .clone), (220, .sorted 230), (8, .mk reqT), (223, .bt lookT), (47, .tab classT), (54, .tab sizeT)]
theorem xlk_cons {a : Nat} {x : Ev.XK} {r : List (Nat × Ev.XK)} {f : Nat} {k : Ev.XK} (h : Ev.xlk ((a, x) :: r) f = some k) : (f = a ∧ k = x) ∨ Ev.xlk r f = some k := by
  simp only [Ev.xlk] at h
  split at h
  · rename_i hb; cases h; exact .inl ⟨(Nat.eq_of_beq_eq_true hb).symm, rfl⟩
  · exact .inr h
theorem conn_good [E : Inhabited Ev.EnvT] (hC : ∀ w : World, (∀ b, b < E.default.base → w.heap[b]? = E.default.h0 b) → E.default.base ≤ w.heap.size → CW w) : ∀ f k, Ev.xlk connX f = some k → Ev.XGood Tryz.prog Ev.noG f k := by
  intro f k h
  unfold connX at h
  rcases xlk_cons h with ⟨rfl, rfl⟩ | h
  · exact clone_ok
  rcases xlk_cons h with ⟨rfl, rfl⟩ | h
  · exact sorted_ok
  rcases xlk_cons h with ⟨rfl, rfl⟩ | h
  · exact req_good hC
  rcases xlk_cons h with ⟨rfl, rfl⟩ | h
  · exact look_good hC
  rcases xlk_cons h with ⟨rfl, rfl⟩ | h
  · exact class_good hC
  rcases xlk_cons h with ⟨rfl, rfl⟩ | h
  · exact size_good hC
  cases h
/-- no letters; the blocks that are there stay -/
abbrev atE (W : World) : Inhabited Ev.EnvT := ⟨⟨Ev.noI, fun _ => .bool false, [], fun f h => (by cases h), fun _ => ⟨rfl, rfl⟩, W.heap.size, fun b => W.heap[b]?⟩⟩
theorem closed_any (W : World) (hC : CW W) (n f : Nat) (h : @Ev.lawSymX (atE W) Tryz.prog connX n f [] = True) : Calls Tryz.prog f #[] W fun e W' => e = .returned (.bool true) ∧ Below W.heap.size W W' :=
  @Ev.lawSymX_calls (atE W) Tryz.prog connX n f [] [] (@conn_good (atE W) (fun w ho hb => hC.heap ho hb)) h (@Ev.Rs.nil (atE W) _) W (fun _ _ => rfl) (Nat.le_refl _)
theorem awake_true (W : World) : @Ev.lawSymX (atE W) Tryz.prog connX 2000 7 [] = True := by kernel_rfl
theorem awake_any (W : World) (hC : CW W) : Calls Tryz.prog 7 #[] W fun e W' => e = .returned (.bool true) ∧ Below W.heap.size W W' := closed_any W hC 2000 _ (awake_true W)
end Go.Proofs.YtocnkiojlifgpaaGreatDoor
