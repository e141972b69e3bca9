/- QuadNil: the law's walk. -/
import Derived.Test.YtodoblbekdmjhaaXDel1
set_option linter.unusedVariables false
set_option linter.unusedSimpArgs false
set_option linter.unusedSectionVars false
namespace Go.Eng.QuaN
open Go.RowKit Go.Proofs
theorem ext2_ok : Ext2 Try.prog 92 71 34 4 42 5 where
  cmp := ⟨Try.f92, by kernel_rfl, by kernel_rfl, by kernel_rfl, by kernel_rfl, by kernel_rfl⟩
  ov := ⟨Try.f71, by kernel_rfl, by kernel_rfl, by kernel_rfl, by kernel_rfl, by kernel_rfl⟩
  ty := by kernel_rfl
  size := fun w => by kernel_rfl
theorem t7 : isT ((@exM noSide Try.prog (ext2 92 71) (overDel 59) 1000 60).call 7 [] emptyMem) = true := by kernel_rfl
theorem calls7 (w : World) : Calls Try.prog 7 #[] w fun e w' => e = .returned (.bool true) ∧ Below w.heap.size w w' := by
  obtain ⟨m, hm⟩ := isT_eq t7
  exact closed_runD ext2_ok mixed delRun hm rfl w
def c0 : List CT := [.l (.i .i64), .l (.i .i64), .l .s, .l .s, .l (.i .i64)]
def c1 : List CT := [.l (.i .i64), .l (.i .i64), .l (.i .i64), .l (.i .i64)]
theorem flat44 : flat Try.prog 9 44 = some c0 := by kernel_rfl
theorem flat52 : flat Try.prog 9 52 = some c1 := by kernel_rfl
def ps : List PK := [(true, c0), (true, c1)]
def test : Value := bin .gtr (bin .add (un 101 (.chan (some 17))) (un 101 (.chan (some 25)))) (.int .i64 300)
noncomputable def run (S : Side) : Option (Value × Mem) := (@exM S Try.prog (ext2 92 71) (overK 7) 1000 60).call 4 (absArgs .nilIface 0 ps) emptyMem
section
variable (W : World) (pin : Nat → Option (Nat × Nat)) (sym : Nat → Option Value)
theorem runT : isT (run (mkSide W [(test, true)] pin sym)) = true := by kernel_rfl
theorem runF : isT (run (mkSide W [(test, false)] pin sym)) = true := by kernel_rfl
end
theorem walk {W : World} {vs cells : List Value} (hargs : ArgsOk W ps vs cells) : Calls Try.prog 4 vs.toArray W fun e w' => e = .returned (.bool true) ∧ Below W.heap.size W w' := by
  refine plain_walk2 ext2_ok mixed (lim := 1000) (n := 60) (tests := [test]) calls7 rfl (by decide) rfl (fun W pc hpc => ?_) hargs
  obtain ⟨b, rfl⟩ : ∃ b, pc = [(test, b)] := by
    cases pc with
    | nil => cases hpc
    | cons p r => cases r with
      | nil => obtain ⟨t, b⟩ := p; simp at hpc; subst hpc; exact ⟨b, rfl⟩
      | cons q r => simp at hpc
  cases b with
  | true => exact runT W _ _
  | false => exact runF W _ _
end Go.Eng.QuaN
