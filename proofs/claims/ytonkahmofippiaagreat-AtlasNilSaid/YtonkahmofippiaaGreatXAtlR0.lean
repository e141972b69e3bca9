/- AtlasNil: runs. -/
import Derived.Test.YtonkahmofippiaaGreatXAtlN
set_option linter.unusedVariables false
set_option linter.unusedSimpArgs false
set_option linter.unusedSectionVars false
namespace Go.Eng.AtlN
open Go.RowKit Go.Proofs
section
variable (W : World) (pin : Nat → Option (Nat × Nat)) (sym : Nat → Option Value)
theorem run0 : ((List.range' 0 6).all fun n => isT (run (mkSide W [] pin sym) (absSl 1 (some n)) (absMem tsC (some n)))) = true := by kernel_rfl
theorem run6 : ((List.range' 6 5).all fun n => isT (run (mkSide W [] pin sym) (absSl 1 (some n)) (absMem tsC (some n)))) = true := by kernel_rfl
theorem runS0 (n : Nat) (h0 : 0 ≤ n) (h : n ≤ 10) : isT (run (mkSide W [] pin sym) (absSl 1 (some n)) (absMem tsC (some n))) = true := by
  rcases Nat.lt_or_ge n 6 with h6 | h6
  · exact List.all_eq_true.1 (run0 W pin sym) n (List.mem_range'_1.2 ⟨by omega, by omega⟩)
  rcases Nat.lt_or_ge n 11 with h11 | h11
  · exact List.all_eq_true.1 (run6 W pin sym) n (List.mem_range'_1.2 ⟨by omega, by omega⟩)
  omega
end
end Go.Eng.AtlN
