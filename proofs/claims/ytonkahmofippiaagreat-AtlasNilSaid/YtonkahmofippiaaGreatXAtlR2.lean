/- AtlasNil: runs. -/
import Derived.Test.YtonkahmofippiaaGreatXAtlN
set_option linter.unusedVariables false
set_option linter.unusedSimpArgs false
set_option linter.unusedSectionVars false
namespace Go.Eng.AtlN
open Go.RowKit Go.Proofs
section
variable (W : World) (pin : Nat → Option (Nat × Nat)) (sym : Nat → Option Value)
theorem run17 : ((List.range' 17 3).all fun n => isT (run (mkSide W [] pin sym) (absSl 1 (some n)) (absMem tsC (some n)))) = true := by kernel_rfl
theorem run20 : ((List.range' 20 2).all fun n => isT (run (mkSide W [] pin sym) (absSl 1 (some n)) (absMem tsC (some n)))) = true := by kernel_rfl
theorem runS2 (n : Nat) (h0 : 17 ≤ n) (h : n ≤ 21) : isT (run (mkSide W [] pin sym) (absSl 1 (some n)) (absMem tsC (some n))) = true := by
  rcases Nat.lt_or_ge n 20 with h20 | h20
  · exact List.all_eq_true.1 (run17 W pin sym) n (List.mem_range'_1.2 ⟨by omega, by omega⟩)
  rcases Nat.lt_or_ge n 22 with h22 | h22
  · exact List.all_eq_true.1 (run20 W pin sym) n (List.mem_range'_1.2 ⟨by omega, by omega⟩)
  omega
end
end Go.Eng.AtlN
