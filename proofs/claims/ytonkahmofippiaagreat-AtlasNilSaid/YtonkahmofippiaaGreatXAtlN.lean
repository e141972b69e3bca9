/- AtlasNil: the law's walk. -/
import Derived.Test.YtonkahmofippiaaGreatEngC
import Derived.Test.YtonkahmofippiaaGreatProg
set_option linter.unusedVariables false
set_option linter.unusedSimpArgs false
set_option linter.unusedSectionVars false
namespace Go.Eng.AtlN
open Go.RowKit Go.Proofs
theorem mixed : Tryz.prog.follows .mixedOrders = true := by kernel_rfl
theorem t23 : isT ((@exN noSide Tryz.prog noext 1000 40).call 23 [] emptyMem) = true := by kernel_rfl
theorem calls23 (w : World) : Calls Tryz.prog 23 #[] w fun e w' => e = .returned (.bool true) ∧ Below w.heap.size w w' := by
  obtain ⟨m, hm⟩ := isT_eq t23
  exact closed_run mixed (fun _ _ _ _ _ h => by cases h) hm rfl w
def c0 : List CT := [.l (.i .i64), .l (.i .i64), .l (.i .i64), .l (.i .i64), .l (.i .i64), .sl [.i .i64]]
def c1 : List CT := [.l (.i .i64), .l (.i .i64)]
def tsC : List LT := [.i .i64]
theorem flat60 : flat Tryz.prog 9 60 = some c0 := by kernel_rfl
theorem flat24 : flat Tryz.prog 9 24 = some c1 := by kernel_rfl
def ps : List PK := [(true, c0), (true, c1)]
noncomputable def run (S : Side) (sl : Value) (m : Mem) : Option (Value × Mem) := (@exM S Tryz.prog noext (overK 23) 1000 40).call 5 (absArgs sl 0 ps) m
section
variable (W : World) (pin : Nat → Option (Nat × Nat)) (sym : Nat → Option Value)
theorem runN : isT (run (mkSide W [] pin sym) (absSl 1 none) (absMem tsC none)) = true := by kernel_rfl
theorem runB : isT (run (mkSide W [(bin .gtr (un 101 (slTok 5)) (.int .i64 30), true)] pin sym) (slTok 5) emptyMem) = true := by kernel_rfl
end
end Go.Eng.AtlN
