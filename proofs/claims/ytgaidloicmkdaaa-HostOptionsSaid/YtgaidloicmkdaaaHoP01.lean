/-
  HostOptions, a piece reckoned at letters. No condition.
-/
import Derived.Test.YtgaidloicmkdaaaHoB
namespace Go.Proofs.Ytgaidloicmkdaaa
open Ev Go.RowKit
set_option linter.unusedVariables false
set_option linter.unusedSimpArgs false
theorem hoP01001 (W : World) (s t : SU) (sp dp sq ak fl wn ug mv sv : Int) (A1 : Option Addr) (n1 k1 : Nat) (A2 : Option Addr) (n2 k2 : Nat) (h : ∀ f, f ∈ hoF0 → f.holds (hoI s t sp dp sq ak fl wn ug mv sv)) : @lawPre (hoE W s t sp dp sq ak fl wn ug mv sv A1 n1 k1 A2 n2 k2 hoF0 h) Try.prog (hoXp false true true true) 400 3 27 [.agg (hoS false), .agg (hoT true), .agg hoG] [(4, .ptr 1 0), (5, .ptr 2 0)] [(1, hoT true), (2, hoG)] = True := by kernel_rfl
theorem hoP01101 (W : World) (s t : SU) (sp dp sq ak fl wn ug mv sv : Int) (A1 : Option Addr) (n1 k1 : Nat) (A2 : Option Addr) (n2 k2 : Nat) (h : ∀ f, f ∈ hoF1 → f.holds (hoI s t sp dp sq ak fl wn ug mv sv)) : @lawPre (hoE W s t sp dp sq ak fl wn ug mv sv A1 n1 k1 A2 n2 k2 hoF1 h) Try.prog (hoXp false true true true) 400 3 27 [.agg (hoS false), .agg (hoT true), .agg hoG] [(4, .ptr 1 0), (5, .ptr 2 0)] [(1, hoT true), (2, hoG)] = True := by kernel_rfl
theorem hoP01011 (W : World) (s t : SU) (sp dp sq ak fl wn ug mv sv : Int) (A1 : Option Addr) (n1 k1 : Nat) (A2 : Option Addr) (n2 k2 : Nat) (h : ∀ f, f ∈ hoF2 → f.holds (hoI s t sp dp sq ak fl wn ug mv sv)) : @lawPre (hoE W s t sp dp sq ak fl wn ug mv sv A1 n1 k1 A2 n2 k2 hoF2 h) Try.prog (hoXp false true true true) 400 3 27 [.agg (hoS false), .agg (hoT true), .agg hoG] [(4, .ptr 1 0), (5, .ptr 2 0)] [(1, hoT true), (2, hoG)] = True := by kernel_rfl
theorem hoP01111 (W : World) (s t : SU) (sp dp sq ak fl wn ug mv sv : Int) (A1 : Option Addr) (n1 k1 : Nat) (A2 : Option Addr) (n2 k2 : Nat) (h : ∀ f, f ∈ hoF3 → f.holds (hoI s t sp dp sq ak fl wn ug mv sv)) : @lawPre (hoE W s t sp dp sq ak fl wn ug mv sv A1 n1 k1 A2 n2 k2 hoF3 h) Try.prog (hoXp false true true true) 400 3 27 [.agg (hoS false), .agg (hoT true), .agg hoG] [(4, .ptr 1 0), (5, .ptr 2 0)] [(1, hoT true), (2, hoG)] = True := by kernel_rfl
theorem hoP01110 (W : World) (s t : SU) (sp dp sq ak fl wn ug mv sv : Int) (A1 : Option Addr) (n1 k1 : Nat) (A2 : Option Addr) (n2 k2 : Nat) (h : ∀ f, f ∈ hoF4 → f.holds (hoI s t sp dp sq ak fl wn ug mv sv)) : @lawPre (hoE W s t sp dp sq ak fl wn ug mv sv A1 n1 k1 A2 n2 k2 hoF4 h) Try.prog (hoXp false true true true) 400 3 27 [.agg (hoS false), .agg (hoT true), .agg hoG] [(4, .ptr 1 0), (5, .ptr 2 0)] [(1, hoT true), (2, hoG)] = True := by kernel_rfl
end Go.Proofs.Ytgaidloicmkdaaa
