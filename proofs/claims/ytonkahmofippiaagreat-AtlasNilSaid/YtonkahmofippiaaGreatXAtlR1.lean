/- AtlasNil: runs. -/
import Derived.Test.YtonkahmofippiaaGreatXAtlN
set_option linter.unusedVariables false
set_option linter.unusedSimpArgs false
set_option linter.unusedSectionVars false
namespace Go.Eng.AtlN
open Go.RowKit Go.Proofs
section
variable (W : World) (pin : Nat → Option (Nat × Nat)) (sym : Nat → Option Value)
theorem run11 : ((List.range' 11 3).all fun n => isT (run (mkSide W [] pin sym) (absSl 1 (some n)) (absMem tsC (some n)))) = true := by kernel_rfl
theorem run14 : ((List.range' 14 3).all fun n => isT (run (mkSide W [] pin sym) (absSl 1 (some n)) (absMem tsC (some n)))) = true := by kernel_rfl
theorem runS1 (n : Nat) (h0 : 11 ≤ n) (h : n ≤ 16) : isT (run (mkSide W [] pin sym) (absSl 1 (some n)) (absMem tsC (some n))) = true := by
  rcases Nat.lt_or_ge n 14 with h14 | h14
  · exact List.all_eq_true.1 (run11 W pin sym) n (List.mem_range'_1.2 ⟨by omega, by omega⟩)
  rcases Nat.lt_or_ge n 17 with h17 | h17
  · exact List.all_eq_true.1 (run14 W pin sym) n (List.mem_range'_1.2 ⟨by omega, by omega⟩)
  omega
end
end Go.Eng.AtlN
