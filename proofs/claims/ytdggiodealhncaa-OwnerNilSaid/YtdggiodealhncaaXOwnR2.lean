/- OwnerNil: runs. -/
import Derived.Test.YtdggiodealhncaaXOwnN
set_option linter.unusedVariables false
set_option linter.unusedSimpArgs false
set_option linter.unusedSectionVars false
namespace Go.Eng.OwnN
open Go.RowKit Go.Proofs
section
variable (W : World) (pin : Nat → Option (Nat × Nat)) (sym : Nat → Option Value)
theorem run48 : ((List.range' 48 3).all fun n => isT (run (mkSide W [] pin sym) (absSl 3 (some n)) (absMem tsH (some n)))) = true := by kernel_rfl
theorem run51 : ((List.range' 51 3).all fun n => isT (run (mkSide W [] pin sym) (absSl 3 (some n)) (absMem tsH (some n)))) = true := by kernel_rfl
theorem run54 : ((List.range' 54 3).all fun n => isT (run (mkSide W [] pin sym) (absSl 3 (some n)) (absMem tsH (some n)))) = true := by kernel_rfl
theorem run57 : ((List.range' 57 3).all fun n => isT (run (mkSide W [] pin sym) (absSl 3 (some n)) (absMem tsH (some n)))) = true := by kernel_rfl
theorem runS2 (n : Nat) (h0 : 48 ≤ n) (h : n ≤ 59) : isT (run (mkSide W [] pin sym) (absSl 3 (some n)) (absMem tsH (some n))) = true := by
  rcases Nat.lt_or_ge n 51 with h51 | h51
  · exact List.all_eq_true.1 (run48 W pin sym) n (List.mem_range'_1.2 ⟨by omega, by omega⟩)
  rcases Nat.lt_or_ge n 54 with h54 | h54
  · exact List.all_eq_true.1 (run51 W pin sym) n (List.mem_range'_1.2 ⟨by omega, by omega⟩)
  rcases Nat.lt_or_ge n 57 with h57 | h57
  · exact List.all_eq_true.1 (run54 W pin sym) n (List.mem_range'_1.2 ⟨by omega, by omega⟩)
  rcases Nat.lt_or_ge n 60 with h60 | h60
  · exact List.all_eq_true.1 (run57 W pin sym) n (List.mem_range'_1.2 ⟨by omega, by omega⟩)
  omega
end
end Go.Eng.OwnN
