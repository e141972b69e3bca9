/- AtlasNil: the law's walk, whatever came in. -/
import Derived.Test.YtonkahmofippiaaGreatEngC
import Derived.Test.YtonkahmofippiaaGreatXAtlR0
import Derived.Test.YtonkahmofippiaaGreatXAtlR1
import Derived.Test.YtonkahmofippiaaGreatXAtlR2
import Derived.Test.YtonkahmofippiaaGreatXAtlR3
import Derived.Test.YtonkahmofippiaaGreatXAtlR4
import Derived.Test.YtonkahmofippiaaGreatXAtlR5
set_option linter.unusedVariables false
set_option linter.unusedSimpArgs false
set_option linter.unusedSectionVars false
namespace Go.Eng.AtlN
open Go.RowKit Go.Proofs
theorem runs (W : World) (n : Nat) (h : n ≤ 30) : isT (run (mkSide W [] (fun _ => none) (fun _ => none)) (absSl 1 (some n)) (absMem tsC (some n))) = true := by
  rcases Nat.lt_or_ge n 11 with h0 | h0
  · exact runS0 W _ _ n (by omega) (by omega)
  rcases Nat.lt_or_ge n 17 with h1 | h1
  · exact runS1 W _ _ n (by omega) (by omega)
  rcases Nat.lt_or_ge n 22 with h2 | h2
  · exact runS2 W _ _ n (by omega) (by omega)
  rcases Nat.lt_or_ge n 26 with h3 | h3
  · exact runS3 W _ _ n (by omega) (by omega)
  rcases Nat.lt_or_ge n 29 with h4 | h4
  · exact runS4 W _ _ n (by omega) (by omega)
  exact runS5 W _ _ n (by omega) h
theorem walk {W : World} {vs cells : List Value} (hargs : ArgsOk W ps vs cells) : Calls Tryz.prog 5 vs.toArray W fun e w' => e = .returned (.bool true) ∧ Below W.heap.size W w' := by
  refine slice_walk mixed (ext := noext) (over := overK 23) (lim := 1000) (n := 40) (tests := []) (q := 5) (N := 30) (ts := tsC) (fun _ _ _ _ _ h => by cases h) (overK_ok calls23) rfl (by decide) rfl (by decide) (by decide) (fun W pc sh hpc hsh => ?_) (fun W pc hpc => ?_) hargs
  · obtain rfl : pc = [] := by cases pc with
      | nil => rfl
      | cons p r => cases hpc
    cases sh with
    | none => exact runN W _ _
    | some n => exact runs W n (hsh n rfl)
  · obtain rfl : pc = [] := by cases pc with
      | nil => rfl
      | cons p r => cases hpc
    exact runB W _ _
end Go.Eng.AtlN
