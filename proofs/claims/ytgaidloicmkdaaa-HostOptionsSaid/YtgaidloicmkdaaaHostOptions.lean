/-
  The law HostOptions: it returns true at any two setups and any segment, and leaves what was there: reckoned at letters in two pieces. No condition.
-/
import Derived.Test.YtgaidloicmkdaaaHoP00
import Derived.Test.YtgaidloicmkdaaaHoP01
import Derived.Test.YtgaidloicmkdaaaHoP10
import Derived.Test.YtgaidloicmkdaaaHoP11
import Derived.Test.YtgaidloicmkdaaaHoQ
import Derived.Test.YtgaidloicmkdaaaHoS0
import Derived.Test.YtgaidloicmkdaaaHoS1
namespace Go.Proofs.Ytgaidloicmkdaaa
open Ev Go.RowKit Go.ChangeShapes Go.WideShapes Go.ChangeAt Go.Joins
set_option linter.unusedVariables false
set_option linter.unusedSimpArgs false

theorem ho_args (W : World) (s t : SU) (sp dp sq ak fl wn ug mv sv : Int) (A1 : Option Addr) (n1 k1 : Nat) (A2 : Option Addr) (n2 k2 : Nat) (ft : List Fact) (h : ∀ f, f ∈ ft → f.holds (hoI s t sp dp sq ak fl wn ug mv sv)) (a b : Bool) (ea : s.sack = a) (eb : t.sack = b) : @Rs (hoE W s t sp dp sq ak fl wn ug mv sv A1 n1 k1 A2 n2 k2 ft h) (fun _ => none) [.agg (hoS a), .agg (hoT b), .agg hoG] [suV s, suV t, (.agg #[.int .u16 sp, .int .u16 dp, .int .u32 sq, .int .u32 ak, .int .u8 fl, .int .u16 wn, .int .u16 ug, .slice A1 n1 k1, .slice A2 n2 k2])] := by
  subst ea eb
  letI : Inhabited EnvT := hoE W s t sp dp sq ak fl wn ug mv sv A1 n1 k1 A2 n2 k2 ft h
  exact .cons (.agg (.cons (.sx .u16 (.v 0)) (.cons (.sx .u32 (.v 1)) (.cons (.sx .u16 (.v 2)) (.cons (.sx .i64 (.v 3)) (.cons (.bool _) (.cons (.sx .i64 (.v 4)) (.cons (.sx .u64 (.v 5)) (.cons (.sx .i64 (.v 6)) .nil))))))))) (.cons (.agg (.cons (.sx .u16 (.v 7)) (.cons (.sx .u32 (.v 8)) (.cons (.sx .u16 (.v 9)) (.cons (.sx .i64 (.v 10)) (.cons (.bool _) (.cons (.sx .i64 (.v 11)) (.cons (.sx .u64 (.v 12)) (.cons (.sx .i64 (.v 13)) .nil))))))))) (.cons (.agg (.cons (.sx .u16 (.v 14)) (.cons (.sx .u16 (.v 15)) (.cons (.sx .u32 (.v 16)) (.cons (.sx .u32 (.v 17)) (.cons (.sx .u8 (.v 18)) (.cons (.sx .u16 (.v 19)) (.cons (.sx .u16 (.v 20)) (.cons (.ov 0) (.cons (.ov 1) .nil)))))))))) .nil))
theorem ho_body : ((Try.prog.funcs[3]?).bind (·.body)).isSome = true := by kernel_rfl
set_option maxRecDepth 100000 in
set_option maxHeartbeats 2000000 in
theorem ho_suf (W : World) (s t : SU) (sp dp sq ak fl wn ug mv sv : Int) (A1 : Option Addr) (n1 k1 : Nat) (A2 : Option Addr) (n2 k2 : Nat) (l1 : List O) (l2 : List UInt8) (h1 : OptsV W (.slice A1 n1 k1) l1) (h2 : BytesV W (.slice A2 n2 k2) l2) (f0 : 0 ≤ fl) (f1 : fl ≤ 255) (mb sb kb b : Bool) (eb : t.sack = b) (e2 : mayS t = true)
    (e4 : mssI (findO l1 2 2) = (mv, mb)) (e5 : scaleI (findO l1 3 1) = (sv, sb)) (e6 : (findO l1 4 0).isSome = kb) (ft : List Fact) (h : ∀ f, f ∈ ft → f.holds (hoI s t sp dp sq ak fl wn ug mv sv)) {fn : Func} {c : Code} {a' : Act} {w' : World}
    (hfn : Try.prog.funcs[3]? = some fn) (hbody : fn.body = some c) (hM : @MidL (hoE W s t sp dp sq ak fl wn ug mv sv A1 n1 k1 A2 n2 k2 ft h) fn W [(4, .ptr 1 0), (5, .ptr 2 0)] [(1, hoT b), (2, hoG)] a' w') :
    wpL Try.prog ((flat c).drop 27) (bodyPost Try.prog fn fun e w' => e = .returned (.bool true) ∧ Below W.heap.size W w') a' w' := by
  obtain ⟨mg, e3⟩ : ∃ mg, mayB l1 l2.length = mg := ⟨_, rfl⟩
  cases mg
  · cases b
    · have hf := hoF5_ok s t sp dp sq ak fl wn ug mv sv
      letI : Inhabited EnvT := hoE W s t sp dp sq ak fl wn ug mv sv A1 n1 k1 A2 n2 k2 hoF5 hf
      exact suf_wp (hoXf_good W s t sp dp sq ak fl wn ug mv sv A1 n1 k1 A2 n2 k2 hoF5 hf l1 l2 h1 h2 false false eb e2 e3) (hoS0F W s t sp dp sq ak fl wn ug mv sv A1 n1 k1 A2 n2 k2 hf) hfn hbody (MidL.env (E1 := hoE W s t sp dp sq ak fl wn ug mv sv A1 n1 k1 A2 n2 k2 ft h) (E2 := hoE W s t sp dp sq ak fl wn ug mv sv A1 n1 k1 A2 n2 k2 hoF5 hf) rfl rfl rfl rfl hM)
    · have hf := hoF5_ok s t sp dp sq ak fl wn ug mv sv
      letI : Inhabited EnvT := hoE W s t sp dp sq ak fl wn ug mv sv A1 n1 k1 A2 n2 k2 hoF5 hf
      exact suf_wp (hoXf_good W s t sp dp sq ak fl wn ug mv sv A1 n1 k1 A2 n2 k2 hoF5 hf l1 l2 h1 h2 true false eb e2 e3) (hoS1F W s t sp dp sq ak fl wn ug mv sv A1 n1 k1 A2 n2 k2 hf) hfn hbody (MidL.env (E1 := hoE W s t sp dp sq ak fl wn ug mv sv A1 n1 k1 A2 n2 k2 ft h) (E2 := hoE W s t sp dp sq ak fl wn ug mv sv A1 n1 k1 A2 n2 k2 hoF5 hf) rfl rfl rfl rfl hM)
  · by_cases x4 : opI .and .u8 fl 4 = 0
    · by_cases x16 : opI .and .u8 fl 16 = 0
      · by_cases x2 : opI .and .u8 fl 2 = 0
        · cases b
          · have hf := hoF10_ok s t sp dp sq ak fl wn ug mv sv f0 f1 x4 x16 x2
            letI : Inhabited EnvT := hoE W s t sp dp sq ak fl wn ug mv sv A1 n1 k1 A2 n2 k2 hoF10 hf
            exact suf_wp (hoXf_good W s t sp dp sq ak fl wn ug mv sv A1 n1 k1 A2 n2 k2 hoF10 hf l1 l2 h1 h2 false true eb e2 e3) (hoS0N W s t sp dp sq ak fl wn ug mv sv A1 n1 k1 A2 n2 k2 hf) hfn hbody (MidL.env (E1 := hoE W s t sp dp sq ak fl wn ug mv sv A1 n1 k1 A2 n2 k2 ft h) (E2 := hoE W s t sp dp sq ak fl wn ug mv sv A1 n1 k1 A2 n2 k2 hoF10 hf) rfl rfl rfl rfl hM)
          · have hf := hoF10_ok s t sp dp sq ak fl wn ug mv sv f0 f1 x4 x16 x2
            letI : Inhabited EnvT := hoE W s t sp dp sq ak fl wn ug mv sv A1 n1 k1 A2 n2 k2 hoF10 hf
            exact suf_wp (hoXf_good W s t sp dp sq ak fl wn ug mv sv A1 n1 k1 A2 n2 k2 hoF10 hf l1 l2 h1 h2 true true eb e2 e3) (hoS1N W s t sp dp sq ak fl wn ug mv sv A1 n1 k1 A2 n2 k2 hf) hfn hbody (MidL.env (E1 := hoE W s t sp dp sq ak fl wn ug mv sv A1 n1 k1 A2 n2 k2 ft h) (E2 := hoE W s t sp dp sq ak fl wn ug mv sv A1 n1 k1 A2 n2 k2 hoF10 hf) rfl rfl rfl rfl hM)
        · rcases (show t.scale < 0 ∨ 0 ≤ t.scale by omega) with hc | hc
          · cases mb <;> cases sb <;> cases kb
            · cases b
              · have hf := hoF11_ok s t sp dp sq ak fl wn ug mv sv f0 f1 x4 x16 x2 hc
                letI : Inhabited EnvT := hoE W s t sp dp sq ak fl wn ug mv sv A1 n1 k1 A2 n2 k2 hoF11 hf
                exact suf_wp (hoXs_good W s t sp dp sq ak fl wn ug mv sv A1 n1 k1 A2 n2 k2 hoF11 hf l1 l2 h1 h2 false false false false eb e2 e3 e4 e5 e6) (hoS0S0000 W s t sp dp sq ak fl wn ug mv sv A1 n1 k1 A2 n2 k2 hf) hfn hbody (MidL.env (E1 := hoE W s t sp dp sq ak fl wn ug mv sv A1 n1 k1 A2 n2 k2 ft h) (E2 := hoE W s t sp dp sq ak fl wn ug mv sv A1 n1 k1 A2 n2 k2 hoF11 hf) rfl rfl rfl rfl hM)
              · have hf := hoF11_ok s t sp dp sq ak fl wn ug mv sv f0 f1 x4 x16 x2 hc
                letI : Inhabited EnvT := hoE W s t sp dp sq ak fl wn ug mv sv A1 n1 k1 A2 n2 k2 hoF11 hf
                exact suf_wp (hoXs_good W s t sp dp sq ak fl wn ug mv sv A1 n1 k1 A2 n2 k2 hoF11 hf l1 l2 h1 h2 true false false false eb e2 e3 e4 e5 e6) (hoS1S0000 W s t sp dp sq ak fl wn ug mv sv A1 n1 k1 A2 n2 k2 hf) hfn hbody (MidL.env (E1 := hoE W s t sp dp sq ak fl wn ug mv sv A1 n1 k1 A2 n2 k2 ft h) (E2 := hoE W s t sp dp sq ak fl wn ug mv sv A1 n1 k1 A2 n2 k2 hoF11 hf) rfl rfl rfl rfl hM)
            · cases b
              · have hf := hoF11_ok s t sp dp sq ak fl wn ug mv sv f0 f1 x4 x16 x2 hc
                letI : Inhabited EnvT := hoE W s t sp dp sq ak fl wn ug mv sv A1 n1 k1 A2 n2 k2 hoF11 hf
                exact suf_wp (hoXs_good W s t sp dp sq ak fl wn ug mv sv A1 n1 k1 A2 n2 k2 hoF11 hf l1 l2 h1 h2 false false false true eb e2 e3 e4 e5 e6) (hoS0S0001 W s t sp dp sq ak fl wn ug mv sv A1 n1 k1 A2 n2 k2 hf) hfn hbody (MidL.env (E1 := hoE W s t sp dp sq ak fl wn ug mv sv A1 n1 k1 A2 n2 k2 ft h) (E2 := hoE W s t sp dp sq ak fl wn ug mv sv A1 n1 k1 A2 n2 k2 hoF11 hf) rfl rfl rfl rfl hM)
              · have hf := hoF11_ok s t sp dp sq ak fl wn ug mv sv f0 f1 x4 x16 x2 hc
                letI : Inhabited EnvT := hoE W s t sp dp sq ak fl wn ug mv sv A1 n1 k1 A2 n2 k2 hoF11 hf
                exact suf_wp (hoXs_good W s t sp dp sq ak fl wn ug mv sv A1 n1 k1 A2 n2 k2 hoF11 hf l1 l2 h1 h2 true false false true eb e2 e3 e4 e5 e6) (hoS1S0001 W s t sp dp sq ak fl wn ug mv sv A1 n1 k1 A2 n2 k2 hf) hfn hbody (MidL.env (E1 := hoE W s t sp dp sq ak fl wn ug mv sv A1 n1 k1 A2 n2 k2 ft h) (E2 := hoE W s t sp dp sq ak fl wn ug mv sv A1 n1 k1 A2 n2 k2 hoF11 hf) rfl rfl rfl rfl hM)
            · cases b
              · have hf := hoF11_ok s t sp dp sq ak fl wn ug mv sv f0 f1 x4 x16 x2 hc
                letI : Inhabited EnvT := hoE W s t sp dp sq ak fl wn ug mv sv A1 n1 k1 A2 n2 k2 hoF11 hf
                exact suf_wp (hoXs_good W s t sp dp sq ak fl wn ug mv sv A1 n1 k1 A2 n2 k2 hoF11 hf l1 l2 h1 h2 false false true false eb e2 e3 e4 e5 e6) (hoS0S0010 W s t sp dp sq ak fl wn ug mv sv A1 n1 k1 A2 n2 k2 hf) hfn hbody (MidL.env (E1 := hoE W s t sp dp sq ak fl wn ug mv sv A1 n1 k1 A2 n2 k2 ft h) (E2 := hoE W s t sp dp sq ak fl wn ug mv sv A1 n1 k1 A2 n2 k2 hoF11 hf) rfl rfl rfl rfl hM)
              · have hf := hoF11_ok s t sp dp sq ak fl wn ug mv sv f0 f1 x4 x16 x2 hc
                letI : Inhabited EnvT := hoE W s t sp dp sq ak fl wn ug mv sv A1 n1 k1 A2 n2 k2 hoF11 hf
                exact suf_wp (hoXs_good W s t sp dp sq ak fl wn ug mv sv A1 n1 k1 A2 n2 k2 hoF11 hf l1 l2 h1 h2 true false true false eb e2 e3 e4 e5 e6) (hoS1S0010 W s t sp dp sq ak fl wn ug mv sv A1 n1 k1 A2 n2 k2 hf) hfn hbody (MidL.env (E1 := hoE W s t sp dp sq ak fl wn ug mv sv A1 n1 k1 A2 n2 k2 ft h) (E2 := hoE W s t sp dp sq ak fl wn ug mv sv A1 n1 k1 A2 n2 k2 hoF11 hf) rfl rfl rfl rfl hM)
            · cases b
              · have hf := hoF11_ok s t sp dp sq ak fl wn ug mv sv f0 f1 x4 x16 x2 hc
                letI : Inhabited EnvT := hoE W s t sp dp sq ak fl wn ug mv sv A1 n1 k1 A2 n2 k2 hoF11 hf
                exact suf_wp (hoXs_good W s t sp dp sq ak fl wn ug mv sv A1 n1 k1 A2 n2 k2 hoF11 hf l1 l2 h1 h2 false false true true eb e2 e3 e4 e5 e6) (hoS0S0011 W s t sp dp sq ak fl wn ug mv sv A1 n1 k1 A2 n2 k2 hf) hfn hbody (MidL.env (E1 := hoE W s t sp dp sq ak fl wn ug mv sv A1 n1 k1 A2 n2 k2 ft h) (E2 := hoE W s t sp dp sq ak fl wn ug mv sv A1 n1 k1 A2 n2 k2 hoF11 hf) rfl rfl rfl rfl hM)
              · have hf := hoF11_ok s t sp dp sq ak fl wn ug mv sv f0 f1 x4 x16 x2 hc
                letI : Inhabited EnvT := hoE W s t sp dp sq ak fl wn ug mv sv A1 n1 k1 A2 n2 k2 hoF11 hf
                exact suf_wp (hoXs_good W s t sp dp sq ak fl wn ug mv sv A1 n1 k1 A2 n2 k2 hoF11 hf l1 l2 h1 h2 true false true true eb e2 e3 e4 e5 e6) (hoS1S0011 W s t sp dp sq ak fl wn ug mv sv A1 n1 k1 A2 n2 k2 hf) hfn hbody (MidL.env (E1 := hoE W s t sp dp sq ak fl wn ug mv sv A1 n1 k1 A2 n2 k2 ft h) (E2 := hoE W s t sp dp sq ak fl wn ug mv sv A1 n1 k1 A2 n2 k2 hoF11 hf) rfl rfl rfl rfl hM)
            · cases b
              · have hf := hoF11_ok s t sp dp sq ak fl wn ug mv sv f0 f1 x4 x16 x2 hc
                letI : Inhabited EnvT := hoE W s t sp dp sq ak fl wn ug mv sv A1 n1 k1 A2 n2 k2 hoF11 hf
                exact suf_wp (hoXs_good W s t sp dp sq ak fl wn ug mv sv A1 n1 k1 A2 n2 k2 hoF11 hf l1 l2 h1 h2 false true false false eb e2 e3 e4 e5 e6) (hoS0S0100 W s t sp dp sq ak fl wn ug mv sv A1 n1 k1 A2 n2 k2 hf) hfn hbody (MidL.env (E1 := hoE W s t sp dp sq ak fl wn ug mv sv A1 n1 k1 A2 n2 k2 ft h) (E2 := hoE W s t sp dp sq ak fl wn ug mv sv A1 n1 k1 A2 n2 k2 hoF11 hf) rfl rfl rfl rfl hM)
              · have hf := hoF11_ok s t sp dp sq ak fl wn ug mv sv f0 f1 x4 x16 x2 hc
                letI : Inhabited EnvT := hoE W s t sp dp sq ak fl wn ug mv sv A1 n1 k1 A2 n2 k2 hoF11 hf
                exact suf_wp (hoXs_good W s t sp dp sq ak fl wn ug mv sv A1 n1 k1 A2 n2 k2 hoF11 hf l1 l2 h1 h2 true true false false eb e2 e3 e4 e5 e6) (hoS1S0100 W s t sp dp sq ak fl wn ug mv sv A1 n1 k1 A2 n2 k2 hf) hfn hbody (MidL.env (E1 := hoE W s t sp dp sq ak fl wn ug mv sv A1 n1 k1 A2 n2 k2 ft h) (E2 := hoE W s t sp dp sq ak fl wn ug mv sv A1 n1 k1 A2 n2 k2 hoF11 hf) rfl rfl rfl rfl hM)
            · cases b
              · have hf := hoF11_ok s t sp dp sq ak fl wn ug mv sv f0 f1 x4 x16 x2 hc
                letI : Inhabited EnvT := hoE W s t sp dp sq ak fl wn ug mv sv A1 n1 k1 A2 n2 k2 hoF11 hf
                exact suf_wp (hoXs_good W s t sp dp sq ak fl wn ug mv sv A1 n1 k1 A2 n2 k2 hoF11 hf l1 l2 h1 h2 false true false true eb e2 e3 e4 e5 e6) (hoS0S0101 W s t sp dp sq ak fl wn ug mv sv A1 n1 k1 A2 n2 k2 hf) hfn hbody (MidL.env (E1 := hoE W s t sp dp sq ak fl wn ug mv sv A1 n1 k1 A2 n2 k2 ft h) (E2 := hoE W s t sp dp sq ak fl wn ug mv sv A1 n1 k1 A2 n2 k2 hoF11 hf) rfl rfl rfl rfl hM)
              · have hf := hoF11_ok s t sp dp sq ak fl wn ug mv sv f0 f1 x4 x16 x2 hc
                letI : Inhabited EnvT := hoE W s t sp dp sq ak fl wn ug mv sv A1 n1 k1 A2 n2 k2 hoF11 hf
                exact suf_wp (hoXs_good W s t sp dp sq ak fl wn ug mv sv A1 n1 k1 A2 n2 k2 hoF11 hf l1 l2 h1 h2 true true false true eb e2 e3 e4 e5 e6) (hoS1S0101 W s t sp dp sq ak fl wn ug mv sv A1 n1 k1 A2 n2 k2 hf) hfn hbody (MidL.env (E1 := hoE W s t sp dp sq ak fl wn ug mv sv A1 n1 k1 A2 n2 k2 ft h) (E2 := hoE W s t sp dp sq ak fl wn ug mv sv A1 n1 k1 A2 n2 k2 hoF11 hf) rfl rfl rfl rfl hM)
            · cases b
              · have hf := hoF11_ok s t sp dp sq ak fl wn ug mv sv f0 f1 x4 x16 x2 hc
                letI : Inhabited EnvT := hoE W s t sp dp sq ak fl wn ug mv sv A1 n1 k1 A2 n2 k2 hoF11 hf
                exact suf_wp (hoXs_good W s t sp dp sq ak fl wn ug mv sv A1 n1 k1 A2 n2 k2 hoF11 hf l1 l2 h1 h2 false true true false eb e2 e3 e4 e5 e6) (hoS0S0110 W s t sp dp sq ak fl wn ug mv sv A1 n1 k1 A2 n2 k2 hf) hfn hbody (MidL.env (E1 := hoE W s t sp dp sq ak fl wn ug mv sv A1 n1 k1 A2 n2 k2 ft h) (E2 := hoE W s t sp dp sq ak fl wn ug mv sv A1 n1 k1 A2 n2 k2 hoF11 hf) rfl rfl rfl rfl hM)
              · have hf := hoF11_ok s t sp dp sq ak fl wn ug mv sv f0 f1 x4 x16 x2 hc
                letI : Inhabited EnvT := hoE W s t sp dp sq ak fl wn ug mv sv A1 n1 k1 A2 n2 k2 hoF11 hf
                exact suf_wp (hoXs_good W s t sp dp sq ak fl wn ug mv sv A1 n1 k1 A2 n2 k2 hoF11 hf l1 l2 h1 h2 true true true false eb e2 e3 e4 e5 e6) (hoS1S0110 W s t sp dp sq ak fl wn ug mv sv A1 n1 k1 A2 n2 k2 hf) hfn hbody (MidL.env (E1 := hoE W s t sp dp sq ak fl wn ug mv sv A1 n1 k1 A2 n2 k2 ft h) (E2 := hoE W s t sp dp sq ak fl wn ug mv sv A1 n1 k1 A2 n2 k2 hoF11 hf) rfl rfl rfl rfl hM)
            · cases b
              · have hf := hoF11_ok s t sp dp sq ak fl wn ug mv sv f0 f1 x4 x16 x2 hc
                letI : Inhabited EnvT := hoE W s t sp dp sq ak fl wn ug mv sv A1 n1 k1 A2 n2 k2 hoF11 hf
                exact suf_wp (hoXs_good W s t sp dp sq ak fl wn ug mv sv A1 n1 k1 A2 n2 k2 hoF11 hf l1 l2 h1 h2 false true true true eb e2 e3 e4 e5 e6) (hoS0S0111 W s t sp dp sq ak fl wn ug mv sv A1 n1 k1 A2 n2 k2 hf) hfn hbody (MidL.env (E1 := hoE W s t sp dp sq ak fl wn ug mv sv A1 n1 k1 A2 n2 k2 ft h) (E2 := hoE W s t sp dp sq ak fl wn ug mv sv A1 n1 k1 A2 n2 k2 hoF11 hf) rfl rfl rfl rfl hM)
              · have hf := hoF11_ok s t sp dp sq ak fl wn ug mv sv f0 f1 x4 x16 x2 hc
                letI : Inhabited EnvT := hoE W s t sp dp sq ak fl wn ug mv sv A1 n1 k1 A2 n2 k2 hoF11 hf
                exact suf_wp (hoXs_good W s t sp dp sq ak fl wn ug mv sv A1 n1 k1 A2 n2 k2 hoF11 hf l1 l2 h1 h2 true true true true eb e2 e3 e4 e5 e6) (hoS1S0111 W s t sp dp sq ak fl wn ug mv sv A1 n1 k1 A2 n2 k2 hf) hfn hbody (MidL.env (E1 := hoE W s t sp dp sq ak fl wn ug mv sv A1 n1 k1 A2 n2 k2 ft h) (E2 := hoE W s t sp dp sq ak fl wn ug mv sv A1 n1 k1 A2 n2 k2 hoF11 hf) rfl rfl rfl rfl hM)
          · cases mb <;> cases sb <;> cases kb
            · cases b
              · have hf := hoF12_ok s t sp dp sq ak fl wn ug mv sv f0 f1 x4 x16 x2 hc
                letI : Inhabited EnvT := hoE W s t sp dp sq ak fl wn ug mv sv A1 n1 k1 A2 n2 k2 hoF12 hf
                exact suf_wp (hoXs_good W s t sp dp sq ak fl wn ug mv sv A1 n1 k1 A2 n2 k2 hoF12 hf l1 l2 h1 h2 false false false false eb e2 e3 e4 e5 e6) (hoS0S1000 W s t sp dp sq ak fl wn ug mv sv A1 n1 k1 A2 n2 k2 hf) hfn hbody (MidL.env (E1 := hoE W s t sp dp sq ak fl wn ug mv sv A1 n1 k1 A2 n2 k2 ft h) (E2 := hoE W s t sp dp sq ak fl wn ug mv sv A1 n1 k1 A2 n2 k2 hoF12 hf) rfl rfl rfl rfl hM)
              · have hf := hoF12_ok s t sp dp sq ak fl wn ug mv sv f0 f1 x4 x16 x2 hc
                letI : Inhabited EnvT := hoE W s t sp dp sq ak fl wn ug mv sv A1 n1 k1 A2 n2 k2 hoF12 hf
                exact suf_wp (hoXs_good W s t sp dp sq ak fl wn ug mv sv A1 n1 k1 A2 n2 k2 hoF12 hf l1 l2 h1 h2 true false false false eb e2 e3 e4 e5 e6) (hoS1S1000 W s t sp dp sq ak fl wn ug mv sv A1 n1 k1 A2 n2 k2 hf) hfn hbody (MidL.env (E1 := hoE W s t sp dp sq ak fl wn ug mv sv A1 n1 k1 A2 n2 k2 ft h) (E2 := hoE W s t sp dp sq ak fl wn ug mv sv A1 n1 k1 A2 n2 k2 hoF12 hf) rfl rfl rfl rfl hM)
            · cases b
              · have hf := hoF12_ok s t sp dp sq ak fl wn ug mv sv f0 f1 x4 x16 x2 hc
                letI : Inhabited EnvT := hoE W s t sp dp sq ak fl wn ug mv sv A1 n1 k1 A2 n2 k2 hoF12 hf
                exact suf_wp (hoXs_good W s t sp dp sq ak fl wn ug mv sv A1 n1 k1 A2 n2 k2 hoF12 hf l1 l2 h1 h2 false false false true eb e2 e3 e4 e5 e6) (hoS0S1001 W s t sp dp sq ak fl wn ug mv sv A1 n1 k1 A2 n2 k2 hf) hfn hbody (MidL.env (E1 := hoE W s t sp dp sq ak fl wn ug mv sv A1 n1 k1 A2 n2 k2 ft h) (E2 := hoE W s t sp dp sq ak fl wn ug mv sv A1 n1 k1 A2 n2 k2 hoF12 hf) rfl rfl rfl rfl hM)
              · have hf := hoF12_ok s t sp dp sq ak fl wn ug mv sv f0 f1 x4 x16 x2 hc
                letI : Inhabited EnvT := hoE W s t sp dp sq ak fl wn ug mv sv A1 n1 k1 A2 n2 k2 hoF12 hf
                exact suf_wp (hoXs_good W s t sp dp sq ak fl wn ug mv sv A1 n1 k1 A2 n2 k2 hoF12 hf l1 l2 h1 h2 true false false true eb e2 e3 e4 e5 e6) (hoS1S1001 W s t sp dp sq ak fl wn ug mv sv A1 n1 k1 A2 n2 k2 hf) hfn hbody (MidL.env (E1 := hoE W s t sp dp sq ak fl wn ug mv sv A1 n1 k1 A2 n2 k2 ft h) (E2 := hoE W s t sp dp sq ak fl wn ug mv sv A1 n1 k1 A2 n2 k2 hoF12 hf) rfl rfl rfl rfl hM)
            · cases b
              · have hf := hoF12_ok s t sp dp sq ak fl wn ug mv sv f0 f1 x4 x16 x2 hc
                letI : Inhabited EnvT := hoE W s t sp dp sq ak fl wn ug mv sv A1 n1 k1 A2 n2 k2 hoF12 hf
                exact suf_wp (hoXs_good W s t sp dp sq ak fl wn ug mv sv A1 n1 k1 A2 n2 k2 hoF12 hf l1 l2 h1 h2 false false true false eb e2 e3 e4 e5 e6) (hoS0S1010 W s t sp dp sq ak fl wn ug mv sv A1 n1 k1 A2 n2 k2 hf) hfn hbody (MidL.env (E1 := hoE W s t sp dp sq ak fl wn ug mv sv A1 n1 k1 A2 n2 k2 ft h) (E2 := hoE W s t sp dp sq ak fl wn ug mv sv A1 n1 k1 A2 n2 k2 hoF12 hf) rfl rfl rfl rfl hM)
              · have hf := hoF12_ok s t sp dp sq ak fl wn ug mv sv f0 f1 x4 x16 x2 hc
                letI : Inhabited EnvT := hoE W s t sp dp sq ak fl wn ug mv sv A1 n1 k1 A2 n2 k2 hoF12 hf
                exact suf_wp (hoXs_good W s t sp dp sq ak fl wn ug mv sv A1 n1 k1 A2 n2 k2 hoF12 hf l1 l2 h1 h2 true false true false eb e2 e3 e4 e5 e6) (hoS1S1010 W s t sp dp sq ak fl wn ug mv sv A1 n1 k1 A2 n2 k2 hf) hfn hbody (MidL.env (E1 := hoE W s t sp dp sq ak fl wn ug mv sv A1 n1 k1 A2 n2 k2 ft h) (E2 := hoE W s t sp dp sq ak fl wn ug mv sv A1 n1 k1 A2 n2 k2 hoF12 hf) rfl rfl rfl rfl hM)
            · cases b
              · have hf := hoF12_ok s t sp dp sq ak fl wn ug mv sv f0 f1 x4 x16 x2 hc
                letI : Inhabited EnvT := hoE W s t sp dp sq ak fl wn ug mv sv A1 n1 k1 A2 n2 k2 hoF12 hf
                exact suf_wp (hoXs_good W s t sp dp sq ak fl wn ug mv sv A1 n1 k1 A2 n2 k2 hoF12 hf l1 l2 h1 h2 false false true true eb e2 e3 e4 e5 e6) (hoS0S1011 W s t sp dp sq ak fl wn ug mv sv A1 n1 k1 A2 n2 k2 hf) hfn hbody (MidL.env (E1 := hoE W s t sp dp sq ak fl wn ug mv sv A1 n1 k1 A2 n2 k2 ft h) (E2 := hoE W s t sp dp sq ak fl wn ug mv sv A1 n1 k1 A2 n2 k2 hoF12 hf) rfl rfl rfl rfl hM)
              · have hf := hoF12_ok s t sp dp sq ak fl wn ug mv sv f0 f1 x4 x16 x2 hc
                letI : Inhabited EnvT := hoE W s t sp dp sq ak fl wn ug mv sv A1 n1 k1 A2 n2 k2 hoF12 hf
                exact suf_wp (hoXs_good W s t sp dp sq ak fl wn ug mv sv A1 n1 k1 A2 n2 k2 hoF12 hf l1 l2 h1 h2 true false true true eb e2 e3 e4 e5 e6) (hoS1S1011 W s t sp dp sq ak fl wn ug mv sv A1 n1 k1 A2 n2 k2 hf) hfn hbody (MidL.env (E1 := hoE W s t sp dp sq ak fl wn ug mv sv A1 n1 k1 A2 n2 k2 ft h) (E2 := hoE W s t sp dp sq ak fl wn ug mv sv A1 n1 k1 A2 n2 k2 hoF12 hf) rfl rfl rfl rfl hM)
            · cases b
              · have hf := hoF12_ok s t sp dp sq ak fl wn ug mv sv f0 f1 x4 x16 x2 hc
                letI : Inhabited EnvT := hoE W s t sp dp sq ak fl wn ug mv sv A1 n1 k1 A2 n2 k2 hoF12 hf
                exact suf_wp (hoXs_good W s t sp dp sq ak fl wn ug mv sv A1 n1 k1 A2 n2 k2 hoF12 hf l1 l2 h1 h2 false true false false eb e2 e3 e4 e5 e6) (hoS0S1100 W s t sp dp sq ak fl wn ug mv sv A1 n1 k1 A2 n2 k2 hf) hfn hbody (MidL.env (E1 := hoE W s t sp dp sq ak fl wn ug mv sv A1 n1 k1 A2 n2 k2 ft h) (E2 := hoE W s t sp dp sq ak fl wn ug mv sv A1 n1 k1 A2 n2 k2 hoF12 hf) rfl rfl rfl rfl hM)
              · have hf := hoF12_ok s t sp dp sq ak fl wn ug mv sv f0 f1 x4 x16 x2 hc
                letI : Inhabited EnvT := hoE W s t sp dp sq ak fl wn ug mv sv A1 n1 k1 A2 n2 k2 hoF12 hf
                exact suf_wp (hoXs_good W s t sp dp sq ak fl wn ug mv sv A1 n1 k1 A2 n2 k2 hoF12 hf l1 l2 h1 h2 true true false false eb e2 e3 e4 e5 e6) (hoS1S1100 W s t sp dp sq ak fl wn ug mv sv A1 n1 k1 A2 n2 k2 hf) hfn hbody (MidL.env (E1 := hoE W s t sp dp sq ak fl wn ug mv sv A1 n1 k1 A2 n2 k2 ft h) (E2 := hoE W s t sp dp sq ak fl wn ug mv sv A1 n1 k1 A2 n2 k2 hoF12 hf) rfl rfl rfl rfl hM)
            · cases b
              · have hf := hoF12_ok s t sp dp sq ak fl wn ug mv sv f0 f1 x4 x16 x2 hc
                letI : Inhabited EnvT := hoE W s t sp dp sq ak fl wn ug mv sv A1 n1 k1 A2 n2 k2 hoF12 hf
                exact suf_wp (hoXs_good W s t sp dp sq ak fl wn ug mv sv A1 n1 k1 A2 n2 k2 hoF12 hf l1 l2 h1 h2 false true false true eb e2 e3 e4 e5 e6) (hoS0S1101 W s t sp dp sq ak fl wn ug mv sv A1 n1 k1 A2 n2 k2 hf) hfn hbody (MidL.env (E1 := hoE W s t sp dp sq ak fl wn ug mv sv A1 n1 k1 A2 n2 k2 ft h) (E2 := hoE W s t sp dp sq ak fl wn ug mv sv A1 n1 k1 A2 n2 k2 hoF12 hf) rfl rfl rfl rfl hM)
              · have hf := hoF12_ok s t sp dp sq ak fl wn ug mv sv f0 f1 x4 x16 x2 hc
                letI : Inhabited EnvT := hoE W s t sp dp sq ak fl wn ug mv sv A1 n1 k1 A2 n2 k2 hoF12 hf
                exact suf_wp (hoXs_good W s t sp dp sq ak fl wn ug mv sv A1 n1 k1 A2 n2 k2 hoF12 hf l1 l2 h1 h2 true true false true eb e2 e3 e4 e5 e6) (hoS1S1101 W s t sp dp sq ak fl wn ug mv sv A1 n1 k1 A2 n2 k2 hf) hfn hbody (MidL.env (E1 := hoE W s t sp dp sq ak fl wn ug mv sv A1 n1 k1 A2 n2 k2 ft h) (E2 := hoE W s t sp dp sq ak fl wn ug mv sv A1 n1 k1 A2 n2 k2 hoF12 hf) rfl rfl rfl rfl hM)
            · cases b
              · have hf := hoF12_ok s t sp dp sq ak fl wn ug mv sv f0 f1 x4 x16 x2 hc
                letI : Inhabited EnvT := hoE W s t sp dp sq ak fl wn ug mv sv A1 n1 k1 A2 n2 k2 hoF12 hf
                exact suf_wp (hoXs_good W s t sp dp sq ak fl wn ug mv sv A1 n1 k1 A2 n2 k2 hoF12 hf l1 l2 h1 h2 false true true false eb e2 e3 e4 e5 e6) (hoS0S1110 W s t sp dp sq ak fl wn ug mv sv A1 n1 k1 A2 n2 k2 hf) hfn hbody (MidL.env (E1 := hoE W s t sp dp sq ak fl wn ug mv sv A1 n1 k1 A2 n2 k2 ft h) (E2 := hoE W s t sp dp sq ak fl wn ug mv sv A1 n1 k1 A2 n2 k2 hoF12 hf) rfl rfl rfl rfl hM)
              · have hf := hoF12_ok s t sp dp sq ak fl wn ug mv sv f0 f1 x4 x16 x2 hc
                letI : Inhabited EnvT := hoE W s t sp dp sq ak fl wn ug mv sv A1 n1 k1 A2 n2 k2 hoF12 hf
                exact suf_wp (hoXs_good W s t sp dp sq ak fl wn ug mv sv A1 n1 k1 A2 n2 k2 hoF12 hf l1 l2 h1 h2 true true true false eb e2 e3 e4 e5 e6) (hoS1S1110 W s t sp dp sq ak fl wn ug mv sv A1 n1 k1 A2 n2 k2 hf) hfn hbody (MidL.env (E1 := hoE W s t sp dp sq ak fl wn ug mv sv A1 n1 k1 A2 n2 k2 ft h) (E2 := hoE W s t sp dp sq ak fl wn ug mv sv A1 n1 k1 A2 n2 k2 hoF12 hf) rfl rfl rfl rfl hM)
            · cases b
              · have hf := hoF12_ok s t sp dp sq ak fl wn ug mv sv f0 f1 x4 x16 x2 hc
                letI : Inhabited EnvT := hoE W s t sp dp sq ak fl wn ug mv sv A1 n1 k1 A2 n2 k2 hoF12 hf
                exact suf_wp (hoXs_good W s t sp dp sq ak fl wn ug mv sv A1 n1 k1 A2 n2 k2 hoF12 hf l1 l2 h1 h2 false true true true eb e2 e3 e4 e5 e6) (hoS0S1111 W s t sp dp sq ak fl wn ug mv sv A1 n1 k1 A2 n2 k2 hf) hfn hbody (MidL.env (E1 := hoE W s t sp dp sq ak fl wn ug mv sv A1 n1 k1 A2 n2 k2 ft h) (E2 := hoE W s t sp dp sq ak fl wn ug mv sv A1 n1 k1 A2 n2 k2 hoF12 hf) rfl rfl rfl rfl hM)
              · have hf := hoF12_ok s t sp dp sq ak fl wn ug mv sv f0 f1 x4 x16 x2 hc
                letI : Inhabited EnvT := hoE W s t sp dp sq ak fl wn ug mv sv A1 n1 k1 A2 n2 k2 hoF12 hf
                exact suf_wp (hoXs_good W s t sp dp sq ak fl wn ug mv sv A1 n1 k1 A2 n2 k2 hoF12 hf l1 l2 h1 h2 true true true true eb e2 e3 e4 e5 e6) (hoS1S1111 W s t sp dp sq ak fl wn ug mv sv A1 n1 k1 A2 n2 k2 hf) hfn hbody (MidL.env (E1 := hoE W s t sp dp sq ak fl wn ug mv sv A1 n1 k1 A2 n2 k2 ft h) (E2 := hoE W s t sp dp sq ak fl wn ug mv sv A1 n1 k1 A2 n2 k2 hoF12 hf) rfl rfl rfl rfl hM)
      · cases b
        · have hf := hoF9_ok s t sp dp sq ak fl wn ug mv sv f0 f1 x4 x16
          letI : Inhabited EnvT := hoE W s t sp dp sq ak fl wn ug mv sv A1 n1 k1 A2 n2 k2 hoF9 hf
          exact suf_wp (hoXf_good W s t sp dp sq ak fl wn ug mv sv A1 n1 k1 A2 n2 k2 hoF9 hf l1 l2 h1 h2 false true eb e2 e3) (hoS0A W s t sp dp sq ak fl wn ug mv sv A1 n1 k1 A2 n2 k2 hf) hfn hbody (MidL.env (E1 := hoE W s t sp dp sq ak fl wn ug mv sv A1 n1 k1 A2 n2 k2 ft h) (E2 := hoE W s t sp dp sq ak fl wn ug mv sv A1 n1 k1 A2 n2 k2 hoF9 hf) rfl rfl rfl rfl hM)
        · have hf := hoF9_ok s t sp dp sq ak fl wn ug mv sv f0 f1 x4 x16
          letI : Inhabited EnvT := hoE W s t sp dp sq ak fl wn ug mv sv A1 n1 k1 A2 n2 k2 hoF9 hf
          exact suf_wp (hoXf_good W s t sp dp sq ak fl wn ug mv sv A1 n1 k1 A2 n2 k2 hoF9 hf l1 l2 h1 h2 true true eb e2 e3) (hoS1A W s t sp dp sq ak fl wn ug mv sv A1 n1 k1 A2 n2 k2 hf) hfn hbody (MidL.env (E1 := hoE W s t sp dp sq ak fl wn ug mv sv A1 n1 k1 A2 n2 k2 ft h) (E2 := hoE W s t sp dp sq ak fl wn ug mv sv A1 n1 k1 A2 n2 k2 hoF9 hf) rfl rfl rfl rfl hM)
    · cases b
      · have hf := hoF8_ok s t sp dp sq ak fl wn ug mv sv f0 f1 x4
        letI : Inhabited EnvT := hoE W s t sp dp sq ak fl wn ug mv sv A1 n1 k1 A2 n2 k2 hoF8 hf
        exact suf_wp (hoXf_good W s t sp dp sq ak fl wn ug mv sv A1 n1 k1 A2 n2 k2 hoF8 hf l1 l2 h1 h2 false true eb e2 e3) (hoS0R W s t sp dp sq ak fl wn ug mv sv A1 n1 k1 A2 n2 k2 hf) hfn hbody (MidL.env (E1 := hoE W s t sp dp sq ak fl wn ug mv sv A1 n1 k1 A2 n2 k2 ft h) (E2 := hoE W s t sp dp sq ak fl wn ug mv sv A1 n1 k1 A2 n2 k2 hoF8 hf) rfl rfl rfl rfl hM)
      · have hf := hoF8_ok s t sp dp sq ak fl wn ug mv sv f0 f1 x4
        letI : Inhabited EnvT := hoE W s t sp dp sq ak fl wn ug mv sv A1 n1 k1 A2 n2 k2 hoF8 hf
        exact suf_wp (hoXf_good W s t sp dp sq ak fl wn ug mv sv A1 n1 k1 A2 n2 k2 hoF8 hf l1 l2 h1 h2 true true eb e2 e3) (hoS1R W s t sp dp sq ak fl wn ug mv sv A1 n1 k1 A2 n2 k2 hf) hfn hbody (MidL.env (E1 := hoE W s t sp dp sq ak fl wn ug mv sv A1 n1 k1 A2 n2 k2 ft h) (E2 := hoE W s t sp dp sq ak fl wn ug mv sv A1 n1 k1 A2 n2 k2 hoF8 hf) rfl rfl rfl rfl hM)
theorem mayS_ok (s : SU) (h : mayS s = true) (hi : 0 ≤ s.iss ∧ s.iss ≤ 4294967295) : HoOk s := by
  unfold mayS at h
  simp only [Bool.and_eq_true, decide_eq_true_eq] at h
  exact ⟨hi, by omega, by omega, by omega⟩
set_option maxRecDepth 100000 in
set_option maxHeartbeats 2000000 in
theorem ho_walk (W : World) (s t : SU) (sp dp sq ak fl wn ug : Int) (A1 : Option Addr) (n1 k1 : Nat) (A2 : Option Addr) (n2 k2 : Nat) (l1 : List O) (l2 : List UInt8) (h1 : OptsV W (.slice A1 n1 k1) l1) (h2 : BytesV W (.slice A2 n2 k2) l2) (bi : 0 ≤ s.iss ∧ s.iss ≤ 4294967295) (bj : 0 ≤ t.iss ∧ t.iss ≤ 4294967295) (f0 : 0 ≤ fl) (f1 : fl ≤ 255) :
    Calls Try.prog 3 #[suV s, suV t, (.agg #[.int .u16 sp, .int .u16 dp, .int .u32 sq, .int .u32 ak, .int .u8 fl, .int .u16 wn, .int .u16 ug, .slice A1 n1 k1, .slice A2 n2 k2])] W fun e W' => e = .returned (.bool true) ∧ Below W.heap.size W W' := by
  obtain ⟨mv, mb, e4⟩ : ∃ mv mb, mssI (findO l1 2 2) = (mv, mb) := ⟨_, _, rfl⟩
  obtain ⟨sv, sb, e5⟩ : ∃ sv sb, scaleI (findO l1 3 1) = (sv, sb) := ⟨_, _, rfl⟩
  obtain ⟨kb, e6⟩ : ∃ kb, (findO l1 4 0).isSome = kb := ⟨_, rfl⟩
  obtain ⟨ms, e1⟩ : ∃ x, mayS s = x := ⟨_, rfl⟩
  obtain ⟨mt, e2⟩ : ∃ x, mayS t = x := ⟨_, rfl⟩
  obtain ⟨a, ea⟩ : ∃ x, s.sack = x := ⟨_, rfl⟩
  obtain ⟨b, eb⟩ : ∃ x, t.sack = x := ⟨_, rfl⟩
  cases ms
  · cases mt
    · cases a <;> cases b
      · have hf := hoF5_ok s t sp dp sq ak fl wn ug mv sv
        letI : Inhabited EnvT := hoE W s t sp dp sq ak fl wn ug mv sv A1 n1 k1 A2 n2 k2 hoF5 hf
        exact lawSymX_calls (hoXp_good W s t sp dp sq ak fl wn ug mv sv A1 n1 k1 A2 n2 k2 hoF5 hf l1 l2 h1 h2 false false false false ea eb e1 e2) (hoQ00000 W s t sp dp sq ak fl wn ug mv sv A1 n1 k1 A2 n2 k2 hf) (ho_args W s t sp dp sq ak fl wn ug mv sv A1 n1 k1 A2 n2 k2 hoF5 hf _ _ ea eb) W (fun b _ => rfl) (Nat.le_refl _)
      · have hf := hoF5_ok s t sp dp sq ak fl wn ug mv sv
        letI : Inhabited EnvT := hoE W s t sp dp sq ak fl wn ug mv sv A1 n1 k1 A2 n2 k2 hoF5 hf
        exact lawSymX_calls (hoXp_good W s t sp dp sq ak fl wn ug mv sv A1 n1 k1 A2 n2 k2 hoF5 hf l1 l2 h1 h2 false true false false ea eb e1 e2) (hoQ01000 W s t sp dp sq ak fl wn ug mv sv A1 n1 k1 A2 n2 k2 hf) (ho_args W s t sp dp sq ak fl wn ug mv sv A1 n1 k1 A2 n2 k2 hoF5 hf _ _ ea eb) W (fun b _ => rfl) (Nat.le_refl _)
      · have hf := hoF5_ok s t sp dp sq ak fl wn ug mv sv
        letI : Inhabited EnvT := hoE W s t sp dp sq ak fl wn ug mv sv A1 n1 k1 A2 n2 k2 hoF5 hf
        exact lawSymX_calls (hoXp_good W s t sp dp sq ak fl wn ug mv sv A1 n1 k1 A2 n2 k2 hoF5 hf l1 l2 h1 h2 true false false false ea eb e1 e2) (hoQ10000 W s t sp dp sq ak fl wn ug mv sv A1 n1 k1 A2 n2 k2 hf) (ho_args W s t sp dp sq ak fl wn ug mv sv A1 n1 k1 A2 n2 k2 hoF5 hf _ _ ea eb) W (fun b _ => rfl) (Nat.le_refl _)
      · have hf := hoF5_ok s t sp dp sq ak fl wn ug mv sv
        letI : Inhabited EnvT := hoE W s t sp dp sq ak fl wn ug mv sv A1 n1 k1 A2 n2 k2 hoF5 hf
        exact lawSymX_calls (hoXp_good W s t sp dp sq ak fl wn ug mv sv A1 n1 k1 A2 n2 k2 hoF5 hf l1 l2 h1 h2 true true false false ea eb e1 e2) (hoQ11000 W s t sp dp sq ak fl wn ug mv sv A1 n1 k1 A2 n2 k2 hf) (ho_args W s t sp dp sq ak fl wn ug mv sv A1 n1 k1 A2 n2 k2 hoF5 hf _ _ ea eb) W (fun b _ => rfl) (Nat.le_refl _)
    · cases a <;> cases b
      · have hf := hoF5_ok s t sp dp sq ak fl wn ug mv sv
        letI : Inhabited EnvT := hoE W s t sp dp sq ak fl wn ug mv sv A1 n1 k1 A2 n2 k2 hoF5 hf
        exact lawSymX_calls (hoXp_good W s t sp dp sq ak fl wn ug mv sv A1 n1 k1 A2 n2 k2 hoF5 hf l1 l2 h1 h2 false false false true ea eb e1 e2) (hoQ00010 W s t sp dp sq ak fl wn ug mv sv A1 n1 k1 A2 n2 k2 hf) (ho_args W s t sp dp sq ak fl wn ug mv sv A1 n1 k1 A2 n2 k2 hoF5 hf _ _ ea eb) W (fun b _ => rfl) (Nat.le_refl _)
      · have hf := hoF5_ok s t sp dp sq ak fl wn ug mv sv
        letI : Inhabited EnvT := hoE W s t sp dp sq ak fl wn ug mv sv A1 n1 k1 A2 n2 k2 hoF5 hf
        exact lawSymX_calls (hoXp_good W s t sp dp sq ak fl wn ug mv sv A1 n1 k1 A2 n2 k2 hoF5 hf l1 l2 h1 h2 false true false true ea eb e1 e2) (hoQ01010 W s t sp dp sq ak fl wn ug mv sv A1 n1 k1 A2 n2 k2 hf) (ho_args W s t sp dp sq ak fl wn ug mv sv A1 n1 k1 A2 n2 k2 hoF5 hf _ _ ea eb) W (fun b _ => rfl) (Nat.le_refl _)
      · have hf := hoF5_ok s t sp dp sq ak fl wn ug mv sv
        letI : Inhabited EnvT := hoE W s t sp dp sq ak fl wn ug mv sv A1 n1 k1 A2 n2 k2 hoF5 hf
        exact lawSymX_calls (hoXp_good W s t sp dp sq ak fl wn ug mv sv A1 n1 k1 A2 n2 k2 hoF5 hf l1 l2 h1 h2 true false false true ea eb e1 e2) (hoQ10010 W s t sp dp sq ak fl wn ug mv sv A1 n1 k1 A2 n2 k2 hf) (ho_args W s t sp dp sq ak fl wn ug mv sv A1 n1 k1 A2 n2 k2 hoF5 hf _ _ ea eb) W (fun b _ => rfl) (Nat.le_refl _)
      · have hf := hoF5_ok s t sp dp sq ak fl wn ug mv sv
        letI : Inhabited EnvT := hoE W s t sp dp sq ak fl wn ug mv sv A1 n1 k1 A2 n2 k2 hoF5 hf
        exact lawSymX_calls (hoXp_good W s t sp dp sq ak fl wn ug mv sv A1 n1 k1 A2 n2 k2 hoF5 hf l1 l2 h1 h2 true true false true ea eb e1 e2) (hoQ11010 W s t sp dp sq ak fl wn ug mv sv A1 n1 k1 A2 n2 k2 hf) (ho_args W s t sp dp sq ak fl wn ug mv sv A1 n1 k1 A2 n2 k2 hoF5 hf _ _ ea eb) W (fun b _ => rfl) (Nat.le_refl _)
  · cases mt
    · rcases (show s.scale < 0 ∨ 0 ≤ s.scale by omega) with hc | hc
      · cases a <;> cases b
        · have hf := hoF6_ok s t sp dp sq ak fl wn ug mv sv hc
          letI : Inhabited EnvT := hoE W s t sp dp sq ak fl wn ug mv sv A1 n1 k1 A2 n2 k2 hoF6 hf
          exact lawSymX_calls (hoXp_good W s t sp dp sq ak fl wn ug mv sv A1 n1 k1 A2 n2 k2 hoF6 hf l1 l2 h1 h2 false false true false ea eb e1 e2) (hoQ00100 W s t sp dp sq ak fl wn ug mv sv A1 n1 k1 A2 n2 k2 hf) (ho_args W s t sp dp sq ak fl wn ug mv sv A1 n1 k1 A2 n2 k2 hoF6 hf _ _ ea eb) W (fun b _ => rfl) (Nat.le_refl _)
        · have hf := hoF6_ok s t sp dp sq ak fl wn ug mv sv hc
          letI : Inhabited EnvT := hoE W s t sp dp sq ak fl wn ug mv sv A1 n1 k1 A2 n2 k2 hoF6 hf
          exact lawSymX_calls (hoXp_good W s t sp dp sq ak fl wn ug mv sv A1 n1 k1 A2 n2 k2 hoF6 hf l1 l2 h1 h2 false true true false ea eb e1 e2) (hoQ01100 W s t sp dp sq ak fl wn ug mv sv A1 n1 k1 A2 n2 k2 hf) (ho_args W s t sp dp sq ak fl wn ug mv sv A1 n1 k1 A2 n2 k2 hoF6 hf _ _ ea eb) W (fun b _ => rfl) (Nat.le_refl _)
        · have hf := hoF6_ok s t sp dp sq ak fl wn ug mv sv hc
          letI : Inhabited EnvT := hoE W s t sp dp sq ak fl wn ug mv sv A1 n1 k1 A2 n2 k2 hoF6 hf
          exact lawSymX_calls (hoXp_good W s t sp dp sq ak fl wn ug mv sv A1 n1 k1 A2 n2 k2 hoF6 hf l1 l2 h1 h2 true false true false ea eb e1 e2) (hoQ10100 W s t sp dp sq ak fl wn ug mv sv A1 n1 k1 A2 n2 k2 hf) (ho_args W s t sp dp sq ak fl wn ug mv sv A1 n1 k1 A2 n2 k2 hoF6 hf _ _ ea eb) W (fun b _ => rfl) (Nat.le_refl _)
        · have hf := hoF6_ok s t sp dp sq ak fl wn ug mv sv hc
          letI : Inhabited EnvT := hoE W s t sp dp sq ak fl wn ug mv sv A1 n1 k1 A2 n2 k2 hoF6 hf
          exact lawSymX_calls (hoXp_good W s t sp dp sq ak fl wn ug mv sv A1 n1 k1 A2 n2 k2 hoF6 hf l1 l2 h1 h2 true true true false ea eb e1 e2) (hoQ11100 W s t sp dp sq ak fl wn ug mv sv A1 n1 k1 A2 n2 k2 hf) (ho_args W s t sp dp sq ak fl wn ug mv sv A1 n1 k1 A2 n2 k2 hoF6 hf _ _ ea eb) W (fun b _ => rfl) (Nat.le_refl _)
      · cases a <;> cases b
        · have hf := hoF7_ok s t sp dp sq ak fl wn ug mv sv hc
          letI : Inhabited EnvT := hoE W s t sp dp sq ak fl wn ug mv sv A1 n1 k1 A2 n2 k2 hoF7 hf
          exact lawSymX_calls (hoXp_good W s t sp dp sq ak fl wn ug mv sv A1 n1 k1 A2 n2 k2 hoF7 hf l1 l2 h1 h2 false false true false ea eb e1 e2) (hoQ00101 W s t sp dp sq ak fl wn ug mv sv A1 n1 k1 A2 n2 k2 hf) (ho_args W s t sp dp sq ak fl wn ug mv sv A1 n1 k1 A2 n2 k2 hoF7 hf _ _ ea eb) W (fun b _ => rfl) (Nat.le_refl _)
        · have hf := hoF7_ok s t sp dp sq ak fl wn ug mv sv hc
          letI : Inhabited EnvT := hoE W s t sp dp sq ak fl wn ug mv sv A1 n1 k1 A2 n2 k2 hoF7 hf
          exact lawSymX_calls (hoXp_good W s t sp dp sq ak fl wn ug mv sv A1 n1 k1 A2 n2 k2 hoF7 hf l1 l2 h1 h2 false true true false ea eb e1 e2) (hoQ01101 W s t sp dp sq ak fl wn ug mv sv A1 n1 k1 A2 n2 k2 hf) (ho_args W s t sp dp sq ak fl wn ug mv sv A1 n1 k1 A2 n2 k2 hoF7 hf _ _ ea eb) W (fun b _ => rfl) (Nat.le_refl _)
        · have hf := hoF7_ok s t sp dp sq ak fl wn ug mv sv hc
          letI : Inhabited EnvT := hoE W s t sp dp sq ak fl wn ug mv sv A1 n1 k1 A2 n2 k2 hoF7 hf
          exact lawSymX_calls (hoXp_good W s t sp dp sq ak fl wn ug mv sv A1 n1 k1 A2 n2 k2 hoF7 hf l1 l2 h1 h2 true false true false ea eb e1 e2) (hoQ10101 W s t sp dp sq ak fl wn ug mv sv A1 n1 k1 A2 n2 k2 hf) (ho_args W s t sp dp sq ak fl wn ug mv sv A1 n1 k1 A2 n2 k2 hoF7 hf _ _ ea eb) W (fun b _ => rfl) (Nat.le_refl _)
        · have hf := hoF7_ok s t sp dp sq ak fl wn ug mv sv hc
          letI : Inhabited EnvT := hoE W s t sp dp sq ak fl wn ug mv sv A1 n1 k1 A2 n2 k2 hoF7 hf
          exact lawSymX_calls (hoXp_good W s t sp dp sq ak fl wn ug mv sv A1 n1 k1 A2 n2 k2 hoF7 hf l1 l2 h1 h2 true true true false ea eb e1 e2) (hoQ11101 W s t sp dp sq ak fl wn ug mv sv A1 n1 k1 A2 n2 k2 hf) (ho_args W s t sp dp sq ak fl wn ug mv sv A1 n1 k1 A2 n2 k2 hoF7 hf _ _ ea eb) W (fun b _ => rfl) (Nat.le_refl _)
    · have os := mayS_ok s e1 bi
      have ot := mayS_ok t e2 bj
      rcases (show s.scale < 0 ∨ 0 ≤ s.scale by omega) with hs | hs
      · rcases (show t.scale < 0 ∨ 0 ≤ t.scale by omega) with ht | ht
        · cases a <;> cases b
          · have hf := hoF0_ok s t sp dp sq ak fl wn ug mv sv os ot ⟨hs, ht⟩
            letI : Inhabited EnvT := hoE W s t sp dp sq ak fl wn ug mv sv A1 n1 k1 A2 n2 k2 hoF0 hf
            exact pre_calls (hoXp_good W s t sp dp sq ak fl wn ug mv sv A1 n1 k1 A2 n2 k2 hoF0 hf l1 l2 h1 h2 false false true true ea eb e1 e2) (hoP00001 W s t sp dp sq ak fl wn ug mv sv A1 n1 k1 A2 n2 k2 hf) (ho_args W s t sp dp sq ak fl wn ug mv sv A1 n1 k1 A2 n2 k2 hoF0 hf _ _ ea eb) ho_body (fun b _ => rfl) (Nat.le_refl _) fun fn c a' w' hfn hbody hM => ho_suf W s t sp dp sq ak fl wn ug mv sv A1 n1 k1 A2 n2 k2 l1 l2 h1 h2 f0 f1 mb sb kb false eb e2 e4 e5 e6 hoF0 hf hfn hbody hM
          · have hf := hoF0_ok s t sp dp sq ak fl wn ug mv sv os ot ⟨hs, ht⟩
            letI : Inhabited EnvT := hoE W s t sp dp sq ak fl wn ug mv sv A1 n1 k1 A2 n2 k2 hoF0 hf
            exact pre_calls (hoXp_good W s t sp dp sq ak fl wn ug mv sv A1 n1 k1 A2 n2 k2 hoF0 hf l1 l2 h1 h2 false true true true ea eb e1 e2) (hoP01001 W s t sp dp sq ak fl wn ug mv sv A1 n1 k1 A2 n2 k2 hf) (ho_args W s t sp dp sq ak fl wn ug mv sv A1 n1 k1 A2 n2 k2 hoF0 hf _ _ ea eb) ho_body (fun b _ => rfl) (Nat.le_refl _) fun fn c a' w' hfn hbody hM => ho_suf W s t sp dp sq ak fl wn ug mv sv A1 n1 k1 A2 n2 k2 l1 l2 h1 h2 f0 f1 mb sb kb true eb e2 e4 e5 e6 hoF0 hf hfn hbody hM
          · have hf := hoF0_ok s t sp dp sq ak fl wn ug mv sv os ot ⟨hs, ht⟩
            letI : Inhabited EnvT := hoE W s t sp dp sq ak fl wn ug mv sv A1 n1 k1 A2 n2 k2 hoF0 hf
            exact pre_calls (hoXp_good W s t sp dp sq ak fl wn ug mv sv A1 n1 k1 A2 n2 k2 hoF0 hf l1 l2 h1 h2 true false true true ea eb e1 e2) (hoP10001 W s t sp dp sq ak fl wn ug mv sv A1 n1 k1 A2 n2 k2 hf) (ho_args W s t sp dp sq ak fl wn ug mv sv A1 n1 k1 A2 n2 k2 hoF0 hf _ _ ea eb) ho_body (fun b _ => rfl) (Nat.le_refl _) fun fn c a' w' hfn hbody hM => ho_suf W s t sp dp sq ak fl wn ug mv sv A1 n1 k1 A2 n2 k2 l1 l2 h1 h2 f0 f1 mb sb kb false eb e2 e4 e5 e6 hoF0 hf hfn hbody hM
          · have hf := hoF0_ok s t sp dp sq ak fl wn ug mv sv os ot ⟨hs, ht⟩
            letI : Inhabited EnvT := hoE W s t sp dp sq ak fl wn ug mv sv A1 n1 k1 A2 n2 k2 hoF0 hf
            exact pre_calls (hoXp_good W s t sp dp sq ak fl wn ug mv sv A1 n1 k1 A2 n2 k2 hoF0 hf l1 l2 h1 h2 true true true true ea eb e1 e2) (hoP11001 W s t sp dp sq ak fl wn ug mv sv A1 n1 k1 A2 n2 k2 hf) (ho_args W s t sp dp sq ak fl wn ug mv sv A1 n1 k1 A2 n2 k2 hoF0 hf _ _ ea eb) ho_body (fun b _ => rfl) (Nat.le_refl _) fun fn c a' w' hfn hbody hM => ho_suf W s t sp dp sq ak fl wn ug mv sv A1 n1 k1 A2 n2 k2 l1 l2 h1 h2 f0 f1 mb sb kb true eb e2 e4 e5 e6 hoF0 hf hfn hbody hM
        · cases a <;> cases b
          · have hf := hoF2_ok s t sp dp sq ak fl wn ug mv sv os ot ⟨hs, ht⟩
            letI : Inhabited EnvT := hoE W s t sp dp sq ak fl wn ug mv sv A1 n1 k1 A2 n2 k2 hoF2 hf
            exact pre_calls (hoXp_good W s t sp dp sq ak fl wn ug mv sv A1 n1 k1 A2 n2 k2 hoF2 hf l1 l2 h1 h2 false false true true ea eb e1 e2) (hoP00011 W s t sp dp sq ak fl wn ug mv sv A1 n1 k1 A2 n2 k2 hf) (ho_args W s t sp dp sq ak fl wn ug mv sv A1 n1 k1 A2 n2 k2 hoF2 hf _ _ ea eb) ho_body (fun b _ => rfl) (Nat.le_refl _) fun fn c a' w' hfn hbody hM => ho_suf W s t sp dp sq ak fl wn ug mv sv A1 n1 k1 A2 n2 k2 l1 l2 h1 h2 f0 f1 mb sb kb false eb e2 e4 e5 e6 hoF2 hf hfn hbody hM
          · have hf := hoF2_ok s t sp dp sq ak fl wn ug mv sv os ot ⟨hs, ht⟩
            letI : Inhabited EnvT := hoE W s t sp dp sq ak fl wn ug mv sv A1 n1 k1 A2 n2 k2 hoF2 hf
            exact pre_calls (hoXp_good W s t sp dp sq ak fl wn ug mv sv A1 n1 k1 A2 n2 k2 hoF2 hf l1 l2 h1 h2 false true true true ea eb e1 e2) (hoP01011 W s t sp dp sq ak fl wn ug mv sv A1 n1 k1 A2 n2 k2 hf) (ho_args W s t sp dp sq ak fl wn ug mv sv A1 n1 k1 A2 n2 k2 hoF2 hf _ _ ea eb) ho_body (fun b _ => rfl) (Nat.le_refl _) fun fn c a' w' hfn hbody hM => ho_suf W s t sp dp sq ak fl wn ug mv sv A1 n1 k1 A2 n2 k2 l1 l2 h1 h2 f0 f1 mb sb kb true eb e2 e4 e5 e6 hoF2 hf hfn hbody hM
          · have hf := hoF2_ok s t sp dp sq ak fl wn ug mv sv os ot ⟨hs, ht⟩
            letI : Inhabited EnvT := hoE W s t sp dp sq ak fl wn ug mv sv A1 n1 k1 A2 n2 k2 hoF2 hf
            exact pre_calls (hoXp_good W s t sp dp sq ak fl wn ug mv sv A1 n1 k1 A2 n2 k2 hoF2 hf l1 l2 h1 h2 true false true true ea eb e1 e2) (hoP10011 W s t sp dp sq ak fl wn ug mv sv A1 n1 k1 A2 n2 k2 hf) (ho_args W s t sp dp sq ak fl wn ug mv sv A1 n1 k1 A2 n2 k2 hoF2 hf _ _ ea eb) ho_body (fun b _ => rfl) (Nat.le_refl _) fun fn c a' w' hfn hbody hM => ho_suf W s t sp dp sq ak fl wn ug mv sv A1 n1 k1 A2 n2 k2 l1 l2 h1 h2 f0 f1 mb sb kb false eb e2 e4 e5 e6 hoF2 hf hfn hbody hM
          · have hf := hoF2_ok s t sp dp sq ak fl wn ug mv sv os ot ⟨hs, ht⟩
            letI : Inhabited EnvT := hoE W s t sp dp sq ak fl wn ug mv sv A1 n1 k1 A2 n2 k2 hoF2 hf
            exact pre_calls (hoXp_good W s t sp dp sq ak fl wn ug mv sv A1 n1 k1 A2 n2 k2 hoF2 hf l1 l2 h1 h2 true true true true ea eb e1 e2) (hoP11011 W s t sp dp sq ak fl wn ug mv sv A1 n1 k1 A2 n2 k2 hf) (ho_args W s t sp dp sq ak fl wn ug mv sv A1 n1 k1 A2 n2 k2 hoF2 hf _ _ ea eb) ho_body (fun b _ => rfl) (Nat.le_refl _) fun fn c a' w' hfn hbody hM => ho_suf W s t sp dp sq ak fl wn ug mv sv A1 n1 k1 A2 n2 k2 l1 l2 h1 h2 f0 f1 mb sb kb true eb e2 e4 e5 e6 hoF2 hf hfn hbody hM
      · rcases (show t.scale < 0 ∨ 0 ≤ t.scale by omega) with ht | ht
        · cases a <;> cases b
          · have hf := hoF1_ok s t sp dp sq ak fl wn ug mv sv os ot ⟨hs, ht⟩
            letI : Inhabited EnvT := hoE W s t sp dp sq ak fl wn ug mv sv A1 n1 k1 A2 n2 k2 hoF1 hf
            exact pre_calls (hoXp_good W s t sp dp sq ak fl wn ug mv sv A1 n1 k1 A2 n2 k2 hoF1 hf l1 l2 h1 h2 false false true true ea eb e1 e2) (hoP00101 W s t sp dp sq ak fl wn ug mv sv A1 n1 k1 A2 n2 k2 hf) (ho_args W s t sp dp sq ak fl wn ug mv sv A1 n1 k1 A2 n2 k2 hoF1 hf _ _ ea eb) ho_body (fun b _ => rfl) (Nat.le_refl _) fun fn c a' w' hfn hbody hM => ho_suf W s t sp dp sq ak fl wn ug mv sv A1 n1 k1 A2 n2 k2 l1 l2 h1 h2 f0 f1 mb sb kb false eb e2 e4 e5 e6 hoF1 hf hfn hbody hM
          · have hf := hoF1_ok s t sp dp sq ak fl wn ug mv sv os ot ⟨hs, ht⟩
            letI : Inhabited EnvT := hoE W s t sp dp sq ak fl wn ug mv sv A1 n1 k1 A2 n2 k2 hoF1 hf
            exact pre_calls (hoXp_good W s t sp dp sq ak fl wn ug mv sv A1 n1 k1 A2 n2 k2 hoF1 hf l1 l2 h1 h2 false true true true ea eb e1 e2) (hoP01101 W s t sp dp sq ak fl wn ug mv sv A1 n1 k1 A2 n2 k2 hf) (ho_args W s t sp dp sq ak fl wn ug mv sv A1 n1 k1 A2 n2 k2 hoF1 hf _ _ ea eb) ho_body (fun b _ => rfl) (Nat.le_refl _) fun fn c a' w' hfn hbody hM => ho_suf W s t sp dp sq ak fl wn ug mv sv A1 n1 k1 A2 n2 k2 l1 l2 h1 h2 f0 f1 mb sb kb true eb e2 e4 e5 e6 hoF1 hf hfn hbody hM
          · have hf := hoF1_ok s t sp dp sq ak fl wn ug mv sv os ot ⟨hs, ht⟩
            letI : Inhabited EnvT := hoE W s t sp dp sq ak fl wn ug mv sv A1 n1 k1 A2 n2 k2 hoF1 hf
            exact pre_calls (hoXp_good W s t sp dp sq ak fl wn ug mv sv A1 n1 k1 A2 n2 k2 hoF1 hf l1 l2 h1 h2 true false true true ea eb e1 e2) (hoP10101 W s t sp dp sq ak fl wn ug mv sv A1 n1 k1 A2 n2 k2 hf) (ho_args W s t sp dp sq ak fl wn ug mv sv A1 n1 k1 A2 n2 k2 hoF1 hf _ _ ea eb) ho_body (fun b _ => rfl) (Nat.le_refl _) fun fn c a' w' hfn hbody hM => ho_suf W s t sp dp sq ak fl wn ug mv sv A1 n1 k1 A2 n2 k2 l1 l2 h1 h2 f0 f1 mb sb kb false eb e2 e4 e5 e6 hoF1 hf hfn hbody hM
          · have hf := hoF1_ok s t sp dp sq ak fl wn ug mv sv os ot ⟨hs, ht⟩
            letI : Inhabited EnvT := hoE W s t sp dp sq ak fl wn ug mv sv A1 n1 k1 A2 n2 k2 hoF1 hf
            exact pre_calls (hoXp_good W s t sp dp sq ak fl wn ug mv sv A1 n1 k1 A2 n2 k2 hoF1 hf l1 l2 h1 h2 true true true true ea eb e1 e2) (hoP11101 W s t sp dp sq ak fl wn ug mv sv A1 n1 k1 A2 n2 k2 hf) (ho_args W s t sp dp sq ak fl wn ug mv sv A1 n1 k1 A2 n2 k2 hoF1 hf _ _ ea eb) ho_body (fun b _ => rfl) (Nat.le_refl _) fun fn c a' w' hfn hbody hM => ho_suf W s t sp dp sq ak fl wn ug mv sv A1 n1 k1 A2 n2 k2 l1 l2 h1 h2 f0 f1 mb sb kb true eb e2 e4 e5 e6 hoF1 hf hfn hbody hM
        · by_cases hq : 0 < s.room.fdiv (p2 (Nat.min s.scale.toNat IntKind.i64.bits))
          · cases a <;> cases b
            · have hf := hoF3_ok s t sp dp sq ak fl wn ug mv sv os ot ⟨hs, ht, hq⟩
              letI : Inhabited EnvT := hoE W s t sp dp sq ak fl wn ug mv sv A1 n1 k1 A2 n2 k2 hoF3 hf
              exact pre_calls (hoXp_good W s t sp dp sq ak fl wn ug mv sv A1 n1 k1 A2 n2 k2 hoF3 hf l1 l2 h1 h2 false false true true ea eb e1 e2) (hoP00111 W s t sp dp sq ak fl wn ug mv sv A1 n1 k1 A2 n2 k2 hf) (ho_args W s t sp dp sq ak fl wn ug mv sv A1 n1 k1 A2 n2 k2 hoF3 hf _ _ ea eb) ho_body (fun b _ => rfl) (Nat.le_refl _) fun fn c a' w' hfn hbody hM => ho_suf W s t sp dp sq ak fl wn ug mv sv A1 n1 k1 A2 n2 k2 l1 l2 h1 h2 f0 f1 mb sb kb false eb e2 e4 e5 e6 hoF3 hf hfn hbody hM
            · have hf := hoF3_ok s t sp dp sq ak fl wn ug mv sv os ot ⟨hs, ht, hq⟩
              letI : Inhabited EnvT := hoE W s t sp dp sq ak fl wn ug mv sv A1 n1 k1 A2 n2 k2 hoF3 hf
              exact pre_calls (hoXp_good W s t sp dp sq ak fl wn ug mv sv A1 n1 k1 A2 n2 k2 hoF3 hf l1 l2 h1 h2 false true true true ea eb e1 e2) (hoP01111 W s t sp dp sq ak fl wn ug mv sv A1 n1 k1 A2 n2 k2 hf) (ho_args W s t sp dp sq ak fl wn ug mv sv A1 n1 k1 A2 n2 k2 hoF3 hf _ _ ea eb) ho_body (fun b _ => rfl) (Nat.le_refl _) fun fn c a' w' hfn hbody hM => ho_suf W s t sp dp sq ak fl wn ug mv sv A1 n1 k1 A2 n2 k2 l1 l2 h1 h2 f0 f1 mb sb kb true eb e2 e4 e5 e6 hoF3 hf hfn hbody hM
            · have hf := hoF3_ok s t sp dp sq ak fl wn ug mv sv os ot ⟨hs, ht, hq⟩
              letI : Inhabited EnvT := hoE W s t sp dp sq ak fl wn ug mv sv A1 n1 k1 A2 n2 k2 hoF3 hf
              exact pre_calls (hoXp_good W s t sp dp sq ak fl wn ug mv sv A1 n1 k1 A2 n2 k2 hoF3 hf l1 l2 h1 h2 true false true true ea eb e1 e2) (hoP10111 W s t sp dp sq ak fl wn ug mv sv A1 n1 k1 A2 n2 k2 hf) (ho_args W s t sp dp sq ak fl wn ug mv sv A1 n1 k1 A2 n2 k2 hoF3 hf _ _ ea eb) ho_body (fun b _ => rfl) (Nat.le_refl _) fun fn c a' w' hfn hbody hM => ho_suf W s t sp dp sq ak fl wn ug mv sv A1 n1 k1 A2 n2 k2 l1 l2 h1 h2 f0 f1 mb sb kb false eb e2 e4 e5 e6 hoF3 hf hfn hbody hM
            · have hf := hoF3_ok s t sp dp sq ak fl wn ug mv sv os ot ⟨hs, ht, hq⟩
              letI : Inhabited EnvT := hoE W s t sp dp sq ak fl wn ug mv sv A1 n1 k1 A2 n2 k2 hoF3 hf
              exact pre_calls (hoXp_good W s t sp dp sq ak fl wn ug mv sv A1 n1 k1 A2 n2 k2 hoF3 hf l1 l2 h1 h2 true true true true ea eb e1 e2) (hoP11111 W s t sp dp sq ak fl wn ug mv sv A1 n1 k1 A2 n2 k2 hf) (ho_args W s t sp dp sq ak fl wn ug mv sv A1 n1 k1 A2 n2 k2 hoF3 hf _ _ ea eb) ho_body (fun b _ => rfl) (Nat.le_refl _) fun fn c a' w' hfn hbody hM => ho_suf W s t sp dp sq ak fl wn ug mv sv A1 n1 k1 A2 n2 k2 l1 l2 h1 h2 f0 f1 mb sb kb true eb e2 e4 e5 e6 hoF3 hf hfn hbody hM
          · cases a <;> cases b
            · have hf := hoF4_ok s t sp dp sq ak fl wn ug mv sv os ot ⟨hs, ht, hq⟩
              letI : Inhabited EnvT := hoE W s t sp dp sq ak fl wn ug mv sv A1 n1 k1 A2 n2 k2 hoF4 hf
              exact pre_calls (hoXp_good W s t sp dp sq ak fl wn ug mv sv A1 n1 k1 A2 n2 k2 hoF4 hf l1 l2 h1 h2 false false true true ea eb e1 e2) (hoP00110 W s t sp dp sq ak fl wn ug mv sv A1 n1 k1 A2 n2 k2 hf) (ho_args W s t sp dp sq ak fl wn ug mv sv A1 n1 k1 A2 n2 k2 hoF4 hf _ _ ea eb) ho_body (fun b _ => rfl) (Nat.le_refl _) fun fn c a' w' hfn hbody hM => ho_suf W s t sp dp sq ak fl wn ug mv sv A1 n1 k1 A2 n2 k2 l1 l2 h1 h2 f0 f1 mb sb kb false eb e2 e4 e5 e6 hoF4 hf hfn hbody hM
            · have hf := hoF4_ok s t sp dp sq ak fl wn ug mv sv os ot ⟨hs, ht, hq⟩
              letI : Inhabited EnvT := hoE W s t sp dp sq ak fl wn ug mv sv A1 n1 k1 A2 n2 k2 hoF4 hf
              exact pre_calls (hoXp_good W s t sp dp sq ak fl wn ug mv sv A1 n1 k1 A2 n2 k2 hoF4 hf l1 l2 h1 h2 false true true true ea eb e1 e2) (hoP01110 W s t sp dp sq ak fl wn ug mv sv A1 n1 k1 A2 n2 k2 hf) (ho_args W s t sp dp sq ak fl wn ug mv sv A1 n1 k1 A2 n2 k2 hoF4 hf _ _ ea eb) ho_body (fun b _ => rfl) (Nat.le_refl _) fun fn c a' w' hfn hbody hM => ho_suf W s t sp dp sq ak fl wn ug mv sv A1 n1 k1 A2 n2 k2 l1 l2 h1 h2 f0 f1 mb sb kb true eb e2 e4 e5 e6 hoF4 hf hfn hbody hM
            · have hf := hoF4_ok s t sp dp sq ak fl wn ug mv sv os ot ⟨hs, ht, hq⟩
              letI : Inhabited EnvT := hoE W s t sp dp sq ak fl wn ug mv sv A1 n1 k1 A2 n2 k2 hoF4 hf
              exact pre_calls (hoXp_good W s t sp dp sq ak fl wn ug mv sv A1 n1 k1 A2 n2 k2 hoF4 hf l1 l2 h1 h2 true false true true ea eb e1 e2) (hoP10110 W s t sp dp sq ak fl wn ug mv sv A1 n1 k1 A2 n2 k2 hf) (ho_args W s t sp dp sq ak fl wn ug mv sv A1 n1 k1 A2 n2 k2 hoF4 hf _ _ ea eb) ho_body (fun b _ => rfl) (Nat.le_refl _) fun fn c a' w' hfn hbody hM => ho_suf W s t sp dp sq ak fl wn ug mv sv A1 n1 k1 A2 n2 k2 l1 l2 h1 h2 f0 f1 mb sb kb false eb e2 e4 e5 e6 hoF4 hf hfn hbody hM
            · have hf := hoF4_ok s t sp dp sq ak fl wn ug mv sv os ot ⟨hs, ht, hq⟩
              letI : Inhabited EnvT := hoE W s t sp dp sq ak fl wn ug mv sv A1 n1 k1 A2 n2 k2 hoF4 hf
              exact pre_calls (hoXp_good W s t sp dp sq ak fl wn ug mv sv A1 n1 k1 A2 n2 k2 hoF4 hf l1 l2 h1 h2 true true true true ea eb e1 e2) (hoP11110 W s t sp dp sq ak fl wn ug mv sv A1 n1 k1 A2 n2 k2 hf) (ho_args W s t sp dp sq ak fl wn ug mv sv A1 n1 k1 A2 n2 k2 hoF4 hf _ _ ea eb) ho_body (fun b _ => rfl) (Nat.le_refl _) fun fn c a' w' hfn hbody hM => ho_suf W s t sp dp sq ak fl wn ug mv sv A1 n1 k1 A2 n2 k2 l1 l2 h1 h2 f0 f1 mb sb kb true eb e2 e4 e5 e6 hoF4 hf hfn hbody hM

theorem Try.scint : Try.prog.cellsOf 3 = 1 := by kernel_rfl
theorem Try.scbool : Try.prog.cellsOf 4 = 1 := by kernel_rfl
theorem Try.scu64 : Try.prog.cellsOf 24 = 1 := by kernel_rfl
theorem Try.scsetup : Try.prog.cellsOf 26 = 8 := by kernel_rfl
theorem array8 {α : Type} {cs : Array α} (h : cs.size = 8) : ∃ c0 c1 c2 c3 c4 c5 c6 c7, cs = #[c0, c1, c2, c3, c4, c5, c6, c7] := by
  obtain ⟨l⟩ := cs
  match l, h with
  | [c0, c1, c2, c3, c4, c5, c6, c7], _ => exact ⟨c0, c1, c2, c3, c4, c5, c6, c7, rfl⟩
set_option maxRecDepth 100000 in
set_option maxHeartbeats 4000000 in
theorem setup_in {H : Type} {enc : TypeId × Value → H} {W : World} {c0 c1 c2 c3 c4 c5 c6 c7 : Value} {fuel : Nat} {x : DataW H × List MemPlace} (hf : DataW.trod enc Try.prog W 0 (fun _ => true) true fuel 26 [c0, c1, c2, c3, c4, c5, c6, c7] = some x) :
    ∃ s : SU, [c0, c1, c2, c3, c4, c5, c6, c7] = [.int .u16 s.lp, .int .u32 s.iss, .int .u16 s.mss, .int .i64 s.scale, .bool s.sack, .int .i64 s.room, .int .u64 s.rto, .int .i64 s.tries] ∧ 0 ≤ s.iss ∧ s.iss ≤ 4294967295 := by
  obtain ⟨xs, m, _, _, _, hlen, hg⟩ := DataW.trod_struct Try.underlying26 hf
  match xs, hlen with
  | [z0, z1, z2, z3, z4, z5, z6, z7], _ =>
    have g0 := hg 0 _ rfl
    have g1 := hg 1 _ rfl
    have g2 := hg 2 _ rfl
    have g3 := hg 3 _ rfl
    have g4 := hg 4 _ rfl
    have g5 := hg 5 _ rfl
    have g6 := hg 6 _ rfl
    have g7 := hg 7 _ rfl
    simp [Try.sc16, Try.sc32, Try.scint, Try.scbool, Try.scu64] at g0 g1 g2 g3 g4 g5 g6 g7
    obtain ⟨lp, q0, _, w0⟩ := DataW.trod_int Try.underlying22 g0
    simp at q0
    subst q0
    obtain ⟨iss, q1, _, w1⟩ := DataW.trod_int Try.underlying23 g1
    simp at q1
    subst q1
    obtain ⟨mss, q2, _, w2⟩ := DataW.trod_int Try.underlying22 g2
    simp at q2
    subst q2
    obtain ⟨scale, q3, _, w3⟩ := DataW.trod_int Try.underlying3 g3
    simp at q3
    subst q3
    obtain ⟨sack, q4, _⟩ := DataW.trod_bool Try.underlying4 g4
    simp at q4
    subst q4
    obtain ⟨room, q5, _, w5⟩ := DataW.trod_int Try.underlying3 g5
    simp at q5
    subst q5
    obtain ⟨rto, q6, _, w6⟩ := DataW.trod_int Try.underlying24 g6
    simp at q6
    subst q6
    obtain ⟨tries, q7, _, w7⟩ := DataW.trod_int Try.underlying3 g7
    simp at q7
    subst q7
    exact ⟨⟨lp, iss, mss, scale, sack, room, rto, tries⟩, rfl, bounds_u32 w1⟩
set_option maxRecDepth 100000 in
set_option maxHeartbeats 4000000 in
theorem open_setup {H : Type} {enc : TypeId × Value → H} {W : World} {v : Value} {d : DataW H} {p : List MemPlace} {b0 : Nat} (o : Value.okWide Try.prog W .any b0 26 v) (h : DataW.Trod enc Try.prog W 0 (fun _ => true) true 26 v d p) :
    ∃ s : SU, v = suV s ∧ 0 ≤ s.iss ∧ s.iss ≤ 4294967295 := by
  obtain ⟨cs, rfl, hsz⟩ := okWide_struct Try.underlying26 o
  obtain ⟨c0, c1, c2, c3, c4, c5, c6, c7, rfl⟩ := array8 (hsz.trans Try.scsetup)
  obtain ⟨fuel, hf⟩ := h
  obtain ⟨s, he, hb⟩ := setup_in (fuel := fuel) (by simpa [Value.cells] using hf)
  simp only [List.cons.injEq, and_true] at he
  obtain ⟨rfl, rfl, rfl, rfl, rfl, rfl, rfl, rfl⟩ := he
  exact ⟨s, rfl, hb⟩
set_option maxRecDepth 100000 in
theorem hostOptions_typed {H : Type} (enc : TypeId × Value → H) (W : World) (base : Nat) {v0 v1 v2 : Value} {d0 d1 d2 : DataW H} {p0 p1 p2 : List MemPlace}
    (o0 : Value.okWide Try.prog W .any base 26 v0) (o1 : Value.okWide Try.prog W .any base 26 v1) (o2 : Value.okWide Try.prog W .any base 30 v2)
    (h0 : DataW.Trod enc Try.prog W 0 (fun _ => true) true 26 v0 d0 p0) (h1 : DataW.Trod enc Try.prog W 0 (fun _ => true) true 26 v1 d1 p1) (h2 : DataW.Trod enc Try.prog W 0 (fun _ => true) true 30 v2 d2 p2) :
    Calls Try.prog 3 #[v0, v1, v2] W fun e W' => e = .returned (.bool true) ∧ Below W.heap.size W W' := by
  obtain ⟨s, rfl, bs⟩ := open_setup o0 h0
  obtain ⟨t, rfl, bt⟩ := open_setup o1 h1
  obtain ⟨sp, dp, sq, ak, fl, wn, ug, A1, n1, k1, l1, A2, n2, k2, l2, rfl, hb, ho, hd⟩ := open_seg o2 h2
  exact ho_walk W s t sp dp sq ak fl wn ug A1 n1 k1 A2 n2 k2 l1 l2 ho hd bs bt (by omega) (by omega)
end Go.Proofs.Ytgaidloicmkdaaa
