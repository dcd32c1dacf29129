/-
  The law HttpAuthority, typed: without a premise on strings.ContainsAny. Condition: the library's variables lie as listed.
-/
import Derived.Test.YtjppfdilfcokeaaDoorHttpAo
import Derived.Test.YtjppfdilfcokeaaDoorHttpCB
namespace Go.Proofs.YtjppfdilfcokeaaDoor
open Go.RowKit Go.Lib
set_option maxRecDepth 1000000 in
set_option maxHeartbeats 4000000 in
theorem httpAuthority_typed {H : Type} (enc : TypeId × Value → H) (W : World) (base : Nat) {v0 v1 : Value} {d0 d1 : DataW H} {p0 p1 : List MemPlace}
    (o0 : Value.okWide Tryd.prog W .any base 9 v0) (o1 : Value.okWide Tryd.prog W .any base 46 v1)
    (h0 : DataW.Trod enc Tryd.prog W 0 (fun _ => true) true 9 v0 d0 p0) (h1 : DataW.Trod enc Tryd.prog W 0 (fun _ => true) true 46 v1 d1 p1) (hL : LW W) :
    Calls Tryd.prog 7 #[v0, v1] W fun e W' => e = .returned (.bool true) ∧ Below W.heap.size W W' :=
  httpAuthority_typed0 (fun s hs => cany_any s hs) enc W base o0 o1 h0 h1 hL
end Go.Proofs.YtjppfdilfcokeaaDoor
