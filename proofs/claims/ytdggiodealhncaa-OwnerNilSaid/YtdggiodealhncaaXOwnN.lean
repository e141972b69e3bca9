/- OwnerNil: the law's walk. -/
import Derived.Test.YtdggiodealhncaaEngC
import Derived.Test.YtdggiodealhncaaProg
set_option linter.unusedVariables false
set_option linter.unusedSimpArgs false
set_option linter.unusedSectionVars false
namespace Go.Eng.OwnN
open Go.RowKit Go.Proofs
theorem mixed : Try.prog.follows .mixedOrders = true := by kernel_rfl
theorem t18 : isT ((@exN noSide Try.prog noext 1000 40).call 18 [] emptyMem) = true := by kernel_rfl
theorem calls18 (w : World) : Calls Try.prog 18 #[] w fun e w' => e = .returned (.bool true) ∧ Below w.heap.size w w' := by
  obtain ⟨m, hm⟩ := isT_eq t18
  exact closed_run mixed (fun _ _ _ _ _ h => by cases h) hm rfl w
def c0 : List CT := [.sl [.i .i64, .i .i64, .i .i64], .l .b, .l .b, .l .b, .l .b, .l .b, .l .b, .l .b, .l .b]
def c1 : List CT := [.l (.i .i64), .l (.i .i64)]
def tsH : List LT := [.i .i64, .i .i64, .i .i64]
theorem flat75 : flat Try.prog 9 75 = some c0 := by kernel_rfl
theorem flat23 : flat Try.prog 9 23 = some c1 := by kernel_rfl
def ps : List PK := [(true, c0), (true, c1)]
noncomputable def run (S : Side) (sl : Value) (m : Mem) : Option (Value × Mem) := (@exM S Try.prog noext (overK 18) 1000 40).call 5 (absArgs sl 0 ps) m
section
variable (W : World) (pin : Nat → Option (Nat × Nat)) (sym : Nat → Option Value)
theorem runN : isT (run (mkSide W [] pin sym) (absSl 3 none) (absMem tsH none)) = true := by kernel_rfl
theorem runB : isT (run (mkSide W [(bin .gtr (un 101 (slTok 0)) (.int .i64 70), true)] pin sym) (slTok 0) emptyMem) = true := by kernel_rfl
end
end Go.Eng.OwnN
