/- ShelfNil: the law's walk. -/
import Derived.Test.YtodoblbekdmjhaaGreatEngC
import Derived.Test.YtodoblbekdmjhaaGreatProg
set_option linter.unusedVariables false
set_option linter.unusedSimpArgs false
set_option linter.unusedSectionVars false
namespace Go.Eng.ShlN
open Go.RowKit Go.Proofs
theorem mixed : Tryz.prog.follows .mixedOrders = true := by kernel_rfl
theorem ext2_ok : Ext2 Tryz.prog 193 171 31 4 104 5 where
  cmp := ⟨Tryz.f193, by kernel_rfl, by kernel_rfl, by kernel_rfl, by kernel_rfl, by kernel_rfl⟩
  ov := ⟨Tryz.f171, by kernel_rfl, by kernel_rfl, by kernel_rfl, by kernel_rfl, by kernel_rfl⟩
  ty := by kernel_rfl
  size := fun w => by kernel_rfl
theorem t19 : isT ((@exN noSide Tryz.prog (ext2 193 171) 1000 60).call 19 [] emptyMem) = true := by kernel_rfl
theorem calls19 (w : World) : Calls Tryz.prog 19 #[] w fun e w' => e = .returned (.bool true) ∧ Below w.heap.size w w' := by
  obtain ⟨m, hm⟩ := isT_eq t19
  exact closed_run2 ext2_ok mixed hm rfl w
def c0 : List CT := [.l (.i .i64), .l (.i .i64), .l (.i .i64), .l .s, .l .s, .l (.i .i64), .l (.i .i64)]
def c1 : List CT := [.l (.i .i64), .l (.i .i64), .l (.i .i64), .l (.i .i64)]
theorem flat83 : flat Tryz.prog 9 83 = some c0 := by kernel_rfl
theorem flat63 : flat Tryz.prog 9 63 = some c1 := by kernel_rfl
def ps : List PK := [(true, c0), (true, c1)]
def test : Value := bin .gtr (bin .add (un 101 (.chan (some 25))) (un 101 (.chan (some 33)))) (.int .i64 300)
noncomputable def run (S : Side) : Option (Value × Mem) := (@exM S Tryz.prog (ext2 193 171) (overK 19) 1000 60).call 8 (absArgs .nilIface 0 ps) emptyMem
section
variable (W : World) (pin : Nat → Option (Nat × Nat)) (sym : Nat → Option Value)
theorem runT : isT (run (mkSide W [(test, true)] pin sym)) = true := by kernel_rfl
theorem runF : isT (run (mkSide W [(test, false)] pin sym)) = true := by kernel_rfl
end
theorem walk {W : World} {vs cells : List Value} (hargs : ArgsOk W ps vs cells) : Calls Tryz.prog 8 vs.toArray W fun e w' => e = .returned (.bool true) ∧ Below W.heap.size W w' := by
  refine plain_walk2 ext2_ok mixed (lim := 1000) (n := 60) (tests := [test]) calls19 rfl (by decide) rfl (fun W pc hpc => ?_) hargs
  obtain ⟨b, rfl⟩ : ∃ b, pc = [(test, b)] := by
    cases pc with
    | nil => cases hpc
    | cons p r => cases r with
      | nil => obtain ⟨t, b⟩ := p; simp at hpc; subst hpc; exact ⟨b, rfl⟩
      | cons q r => simp at hpc
  cases b with
  | true => exact runT W _ _
  | false => exact runF W _ _
end Go.Eng.ShlN
