/- AtlasNil: runs. -/
import Derived.Test.YtonkahmofippiaaGreatXAtlN
set_option linter.unusedVariables false
set_option linter.unusedSimpArgs false
set_option linter.unusedSectionVars false
namespace Go.Eng.AtlN
open Go.RowKit Go.Proofs
section
variable (W : World) (pin : Nat → Option (Nat × Nat)) (sym : Nat → Option Value)
theorem run22 : ((List.range' 22 3).all fun n => isT (run (mkSide W [] pin sym) (absSl 1 (some n)) (absMem tsC (some n)))) = true := by kernel_rfl
theorem run25 : ((List.range' 25 1).all fun n => isT (run (mkSide W [] pin sym) (absSl 1 (some n)) (absMem tsC (some n)))) = true := by kernel_rfl
theorem runS3 (n : Nat) (h0 : 22 ≤ n) (h : n ≤ 25) : isT (run (mkSide W [] pin sym) (absSl 1 (some n)) (absMem tsC (some n))) = true := by
  rcases Nat.lt_or_ge n 25 with h25 | h25
  · exact List.all_eq_true.1 (run22 W pin sym) n (List.mem_range'_1.2 ⟨by omega, by omega⟩)
  rcases Nat.lt_or_ge n 26 with h26 | h26
  · exact List.all_eq_true.1 (run25 W pin sym) n (List.mem_range'_1.2 ⟨by omega, by omega⟩)
  omega
end
end Go.Eng.AtlN
