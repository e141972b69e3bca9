/- OwnerNil: runs. -/
import Derived.Test.YtdggiodealhncaaXOwnN
set_option linter.unusedVariables false
set_option linter.unusedSimpArgs false
set_option linter.unusedSectionVars false
namespace Go.Eng.OwnN
open Go.RowKit Go.Proofs
section
variable (W : World) (pin : Nat → Option (Nat × Nat)) (sym : Nat → Option Value)
theorem run60 : ((List.range' 60 3).all fun n => isT (run (mkSide W [] pin sym) (absSl 3 (some n)) (absMem tsH (some n)))) = true := by kernel_rfl
theorem run63 : ((List.range' 63 3).all fun n => isT (run (mkSide W [] pin sym) (absSl 3 (some n)) (absMem tsH (some n)))) = true := by kernel_rfl
theorem run66 : ((List.range' 66 3).all fun n => isT (run (mkSide W [] pin sym) (absSl 3 (some n)) (absMem tsH (some n)))) = true := by kernel_rfl
theorem run69 : ((List.range' 69 2).all fun n => isT (run (mkSide W [] pin sym) (absSl 3 (some n)) (absMem tsH (some n)))) = true := by kernel_rfl
theorem runS3 (n : Nat) (h0 : 60 ≤ n) (h : n ≤ 70) : isT (run (mkSide W [] pin sym) (absSl 3 (some n)) (absMem tsH (some n))) = true := by
  rcases Nat.lt_or_ge n 63 with h63 | h63
  · exact List.all_eq_true.1 (run60 W pin sym) n (List.mem_range'_1.2 ⟨by omega, by omega⟩)
  rcases Nat.lt_or_ge n 66 with h66 | h66
  · exact List.all_eq_true.1 (run63 W pin sym) n (List.mem_range'_1.2 ⟨by omega, by omega⟩)
  rcases Nat.lt_or_ge n 69 with h69 | h69
  · exact List.all_eq_true.1 (run66 W pin sym) n (List.mem_range'_1.2 ⟨by omega, by omega⟩)
  rcases Nat.lt_or_ge n 71 with h71 | h71
  · exact List.all_eq_true.1 (run69 W pin sym) n (List.mem_range'_1.2 ⟨by omega, by omega⟩)
  omega
end
end Go.Eng.OwnN
