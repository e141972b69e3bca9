/- AtlasNil: runs. -/
import Derived.Test.YtonkahmofippiaaGreatXAtlN
set_option linter.unusedVariables false
set_option linter.unusedSimpArgs false
set_option linter.unusedSectionVars false
namespace Go.Eng.AtlN
open Go.RowKit Go.Proofs
section
variable (W : World) (pin : Nat → Option (Nat × Nat)) (sym : Nat → Option Value)
theorem run26 : ((List.range' 26 3).all fun n => isT (run (mkSide W [] pin sym) (absSl 1 (some n)) (absMem tsC (some n)))) = true := by kernel_rfl
theorem runS4 (n : Nat) (h0 : 26 ≤ n) (h : n ≤ 28) : isT (run (mkSide W [] pin sym) (absSl 1 (some n)) (absMem tsC (some n))) = true := by
  rcases Nat.lt_or_ge n 29 with h29 | h29
  · exact List.all_eq_true.1 (run26 W pin sym) n (List.mem_range'_1.2 ⟨by omega, by omega⟩)
  omega
end
end Go.Eng.AtlN
