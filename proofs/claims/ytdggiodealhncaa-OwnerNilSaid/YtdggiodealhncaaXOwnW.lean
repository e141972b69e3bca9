/- OwnerNil: the law's walk, whatever came in. -/
import Derived.Test.YtdggiodealhncaaEngC
import Derived.Test.YtdggiodealhncaaXOwnR0
import Derived.Test.YtdggiodealhncaaXOwnR1
import Derived.Test.YtdggiodealhncaaXOwnR2
import Derived.Test.YtdggiodealhncaaXOwnR3
set_option linter.unusedVariables false
set_option linter.unusedSimpArgs false
set_option linter.unusedSectionVars false
namespace Go.Eng.OwnN
open Go.RowKit Go.Proofs
theorem runs (W : World) (n : Nat) (h : n ≤ 70) : isT (run (mkSide W [] (fun _ => none) (fun _ => none)) (absSl 3 (some n)) (absMem tsH (some n))) = true := by
  rcases Nat.lt_or_ge n 33 with h1 | h1
  · exact runS0 W _ _ n (Nat.zero_le _) (by omega)
  rcases Nat.lt_or_ge n 48 with h2 | h2
  · exact runS1 W _ _ n h1 (by omega)
  rcases Nat.lt_or_ge n 60 with h3 | h3
  · exact runS2 W _ _ n h2 (by omega)
  exact runS3 W _ _ n h3 h
theorem walk {W : World} {vs cells : List Value} (hargs : ArgsOk W ps vs cells) : Calls Try.prog 5 vs.toArray W fun e w' => e = .returned (.bool true) ∧ Below W.heap.size W w' := by
  refine slice_walk mixed (ext := noext) (over := overK 18) (lim := 1000) (n := 40) (tests := []) (q := 0) (N := 70) (ts := tsH) (fun _ _ _ _ _ h => by cases h) (overK_ok calls18) rfl (by decide) rfl (by decide) (by decide) (fun W pc sh hpc hsh => ?_) (fun W pc hpc => ?_) hargs
  · obtain rfl : pc = [] := by cases pc with
      | nil => rfl
      | cons p r => cases hpc
    cases sh with
    | none => exact runN W _ _
    | some n => exact runs W n (hsh n rfl)
  · obtain rfl : pc = [] := by cases pc with
      | nil => rfl
      | cons p r => cases hpc
    exact runB W _ _
end Go.Eng.OwnN
