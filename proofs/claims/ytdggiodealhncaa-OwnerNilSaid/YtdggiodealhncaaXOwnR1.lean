/- OwnerNil: runs. -/
import Derived.Test.YtdggiodealhncaaXOwnN
set_option linter.unusedVariables false
set_option linter.unusedSimpArgs false
set_option linter.unusedSectionVars false
namespace Go.Eng.OwnN
open Go.RowKit Go.Proofs
section
variable (W : World) (pin : Nat → Option (Nat × Nat)) (sym : Nat → Option Value)
theorem run33 : ((List.range' 33 4).all fun n => isT (run (mkSide W [] pin sym) (absSl 3 (some n)) (absMem tsH (some n)))) = true := by kernel_rfl
theorem run37 : ((List.range' 37 4).all fun n => isT (run (mkSide W [] pin sym) (absSl 3 (some n)) (absMem tsH (some n)))) = true := by kernel_rfl
theorem run41 : ((List.range' 41 4).all fun n => isT (run (mkSide W [] pin sym) (absSl 3 (some n)) (absMem tsH (some n)))) = true := by kernel_rfl
theorem run45 : ((List.range' 45 3).all fun n => isT (run (mkSide W [] pin sym) (absSl 3 (some n)) (absMem tsH (some n)))) = true := by kernel_rfl
theorem runS1 (n : Nat) (h0 : 33 ≤ n) (h : n ≤ 47) : isT (run (mkSide W [] pin sym) (absSl 3 (some n)) (absMem tsH (some n))) = true := by
  rcases Nat.lt_or_ge n 37 with h37 | h37
  · exact List.all_eq_true.1 (run33 W pin sym) n (List.mem_range'_1.2 ⟨by omega, by omega⟩)
  rcases Nat.lt_or_ge n 41 with h41 | h41
  · exact List.all_eq_true.1 (run37 W pin sym) n (List.mem_range'_1.2 ⟨by omega, by omega⟩)
  rcases Nat.lt_or_ge n 45 with h45 | h45
  · exact List.all_eq_true.1 (run41 W pin sym) n (List.mem_range'_1.2 ⟨by omega, by omega⟩)
  rcases Nat.lt_or_ge n 48 with h48 | h48
  · exact List.all_eq_true.1 (run45 W pin sym) n (List.mem_range'_1.2 ⟨by omega, by omega⟩)
  omega
end
end Go.Eng.OwnN
