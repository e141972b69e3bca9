/- OwnerNil: runs. -/
import Derived.Test.YtdggiodealhncaaXOwnN
set_option linter.unusedVariables false
set_option linter.unusedSimpArgs false
set_option linter.unusedSectionVars false
namespace Go.Eng.OwnN
open Go.RowKit Go.Proofs
section
variable (W : World) (pin : Nat → Option (Nat × Nat)) (sym : Nat → Option Value)
theorem run0 : ((List.range' 0 6).all fun n => isT (run (mkSide W [] pin sym) (absSl 3 (some n)) (absMem tsH (some n)))) = true := by kernel_rfl
theorem run6 : ((List.range' 6 6).all fun n => isT (run (mkSide W [] pin sym) (absSl 3 (some n)) (absMem tsH (some n)))) = true := by kernel_rfl
theorem run12 : ((List.range' 12 6).all fun n => isT (run (mkSide W [] pin sym) (absSl 3 (some n)) (absMem tsH (some n)))) = true := by kernel_rfl
theorem run18 : ((List.range' 18 6).all fun n => isT (run (mkSide W [] pin sym) (absSl 3 (some n)) (absMem tsH (some n)))) = true := by kernel_rfl
theorem run24 : ((List.range' 24 6).all fun n => isT (run (mkSide W [] pin sym) (absSl 3 (some n)) (absMem tsH (some n)))) = true := by kernel_rfl
theorem run30 : ((List.range' 30 3).all fun n => isT (run (mkSide W [] pin sym) (absSl 3 (some n)) (absMem tsH (some n)))) = true := by kernel_rfl
theorem runS0 (n : Nat) (h0 : 0 ≤ n) (h : n ≤ 32) : isT (run (mkSide W [] pin sym) (absSl 3 (some n)) (absMem tsH (some n))) = true := by
  rcases Nat.lt_or_ge n 6 with h6 | h6
  · exact List.all_eq_true.1 (run0 W pin sym) n (List.mem_range'_1.2 ⟨by omega, by omega⟩)
  rcases Nat.lt_or_ge n 12 with h12 | h12
  · exact List.all_eq_true.1 (run6 W pin sym) n (List.mem_range'_1.2 ⟨by omega, by omega⟩)
  rcases Nat.lt_or_ge n 18 with h18 | h18
  · exact List.all_eq_true.1 (run12 W pin sym) n (List.mem_range'_1.2 ⟨by omega, by omega⟩)
  rcases Nat.lt_or_ge n 24 with h24 | h24
  · exact List.all_eq_true.1 (run18 W pin sym) n (List.mem_range'_1.2 ⟨by omega, by omega⟩)
  rcases Nat.lt_or_ge n 30 with h30 | h30
  · exact List.all_eq_true.1 (run24 W pin sym) n (List.mem_range'_1.2 ⟨by omega, by omega⟩)
  rcases Nat.lt_or_ge n 33 with h33 | h33
  · exact List.all_eq_true.1 (run30 W pin sym) n (List.mem_range'_1.2 ⟨by omega, by omega⟩)
  omega
end
end Go.Eng.OwnN
