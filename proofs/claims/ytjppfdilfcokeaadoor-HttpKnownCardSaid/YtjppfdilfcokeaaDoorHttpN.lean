/-
  The plain facts of HttpKnown: what is told of its strings, reckoned by the kernel. Printed by program. No condition.
-/
import Derived.Test.YtjppfdilfcokeaaDoorHttpX
import Derived.Test.YtjppfdilfcokeaaDoorHttpRep
namespace Go.Proofs.YtjppfdilfcokeaaDoor
open Go.Lib
set_option linter.unusedVariables false
set_option linter.unusedSimpArgs false

def wrongsL : List (List UInt8) := [[103], [32], [65, 66, 67, 68, 69, 70, 71, 72, 73, 74, 75, 76, 77, 78, 79, 80, 81], [71, 49], [71, 69, 84, 32, 97], [71, 69, 84, 32, 32], [71, 69, 84, 32, 47, 10], [71, 69, 84, 32, 47, 32, 72, 84, 84, 81], [71, 69, 84, 32, 47, 32, 72, 84, 84, 80, 47, 50], [71, 69, 84, 32, 47, 32, 72, 84, 84, 80, 47, 49, 46, 49, 10], [71, 69, 84, 32, 47, 32, 72, 84, 84, 80, 47, 49, 46, 49, 13, 120], [71, 69, 84, 32, 47, 32, 72, 84, 84, 80, 47, 49, 46, 49, 32], [71, 69, 84, 32, 104, 120], [71, 69, 84, 32, 104, 116, 116, 112, 58, 47, 47, 46], [71, 69, 84, 32, 104, 116, 116, 112, 58, 47, 47, 97, 58], [71, 69, 84, 32, 47, 32, 72, 84, 84, 80, 47, 49, 46, 49, 13, 10, 58], [71, 69, 84, 32, 47, 32, 72, 84, 84, 80, 47, 49, 46, 49, 13, 10, 97, 32], [71, 69, 84, 32, 47, 32, 72, 84, 84, 80, 47, 49, 46, 49, 13, 10, 72, 111, 115, 116, 58, 32, 97, 32, 98]]
theorem wrongs_all : ((List.range 18).all fun i => i == 14 || (lookedB (wrongsL.getD i []) 3 [] && lookedB ((wrongsL.getD i []).take ((wrongsL.getD i []).length - 1)) 0 [])) = true := by kernel_rfl
theorem wrongs_len : (wrongsL.all fun s => decide (1 ≤ s.length) && decide (s.length ≤ 100)) = true := by kernel_rfl
def longL : List UInt8 := Lib.repeatL [97] 253
theorem longL_len : longL.length = 253 := by kernel_rfl
def headL : List UInt8 := [71, 69, 84, 32, 47, 32, 72, 84, 84, 80, 47, 49, 46, 49, 13, 10, 72, 111, 115, 116, 58, 32]
theorem kn0 : lookedB [71, 69, 84, 32, 104, 116, 116, 112, 58, 47, 47, 97, 58] 0 [] = true := by kernel_rfl
theorem kn1 : lookedB [71, 69, 84, 32, 104, 116, 116, 112, 58, 47, 47, 97, 58, 32] 3 [] = true := by kernel_rfl
theorem kn2 : lookedB (headL ++ longL) 0 [] = true := by kernel_rfl
theorem kn3 : lookedB (headL ++ longL ++ [97]) 3 [] = true := by kernel_rfl
theorem kn4 : lookedB (headL ++ longL ++ [13, 10]) 1 longL = true := by kernel_rfl
theorem kn5 : lookedB (headL ++ [97, 58, 54, 53, 53, 51, 53, 13, 10]) 1 [97] = true := by kernel_rfl
theorem kn6 : lookedB (headL ++ [97, 58, 54, 53, 53, 51, 54]) 3 [] = true := by kernel_rfl
theorem kn7 : lookedB (headL ++ [97, 58, 48, 48, 48, 48, 48, 49]) 3 [] = true := by kernel_rfl
theorem kn8 : lookedB (headL ++ [13]) 3 [] = true := by kernel_rfl
theorem kn9 : lookedB [] 0 [] = true := by kernel_rfl
theorem kn10 : lookedB [65, 32, 47, 32, 72, 84, 84, 80, 47, 49, 46, 48, 13, 10, 72, 111, 115, 116, 120, 58, 32, 97, 46, 46, 98, 13, 10, 13, 10] 2 [] = true := by kernel_rfl
def manyL : List FL := List.replicate 101 ([97], [])
theorem rq0 : (reqR [] manyL).2 = 3 := by kernel_rfl
theorem rq1 : (reqR [] (manyL.take 100)).2 = 0 := by kernel_rfl
theorem rq2 : (reqR [46] []).2 = 1 := by kernel_rfl
theorem rq3 : (reqR [97] [([104, 79, 83, 84], [98])]).2 = 1 := by kernel_rfl
theorem rq4 : (reqR [97] [([], [98])]).2 = 1 := by kernel_rfl
theorem rq5 : (reqR [97] [([97], [13])]).2 = 1 := by kernel_rfl
def longB : List UInt8 := Lib.repeatL [98] 1001
theorem longB_len : longB.length = 1001 := by kernel_rfl
theorem rq6 : (reqR [97] [([97], longB)]).2 = 3 := by kernel_rfl
end Go.Proofs.YtjppfdilfcokeaaDoor
