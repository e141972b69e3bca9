/- HistoryNil: the law's walk. -/
import Derived.Test.YtdggiodealhncaaEngC
import Derived.Test.YtdggiodealhncaaXPure32
set_option linter.unusedVariables false
set_option linter.unusedSimpArgs false
set_option linter.unusedSectionVars false
namespace Go.Eng.Hist
open Go.RowKit Go.Proofs
theorem mixed : Try.prog.follows .mixedOrders = true := by kernel_rfl
theorem t7 : isT ((@exN noSide Try.prog noext 1000 40).call 7 [] emptyMem) = true := by kernel_rfl
theorem calls7 (w : World) : Calls Try.prog 7 #[] w fun e w' => e = .returned (.bool true) ∧ Below w.heap.size w w' := by
  obtain ⟨m, hm⟩ := isT_eq t7
  exact closed_run mixed (fun _ _ _ _ _ h => by cases h) hm rfl w
def overH (sl : Value) (r : Bool) : FuncId → List Value → Mem → Option (Value × Mem) := fun f vs m =>
  if f = 7 then (match vs with | [] => some (.bool true, m) | _ => none)
  else if f = 32 then (match vs with | [v] => if veq 5 v sl then some (.bool r, m) else none | _ => none) else none
theorem overH_ok [S : Side] {sl : Value} {r : Bool} (h32' : ∀ (G : Ctx) (B : Prot) (w : World) (v' : Value), Side.φ G B w → VRel G sl v' → Calls Try.prog 32 #[v'] w fun e w' => e = .returned (.bool r) ∧ Below w.heap.size w w') : ∀ f vs m v m', overH sl r f vs m = some (v, m') → ACall Try.prog f vs m fun v1 m1 => v1 = v ∧ m1 = m' := by
  intro f vs m v m' h
  unfold overH at h
  split at h
  · rename_i hf
    split at h
    · cases h; subst hf
      exact ACall.of_calls (fun G => .bool _) fun G B w args' hR hφ hv => by
        cases hv with
        | nil => exact calls7 w
    · cases h
  · split at h
    · rename_i _ hf
      split at h
      · rename_i v0
        split at h
        · rename_i hq
          cases h; subst hf
          have := veq_eq _ _ _ hq
          subst this
          exact ACall.of_calls (fun G => .bool _) fun G B w args' hR hφ hv => by
            cases hv with
            | cons h1 h2 =>
              cases h2
              exact h32' G B w _ hφ h1
        · cases h
      · cases h
    · cases h
/-- The kinds of the cells of an act, of a record. -/
def cts : List CT := [.l (.i .i64), .l (.i .i64), .l (.i .i64), .l (.i .i64), .l .b, .l (.i .i64), .l (.i .i64), .l (.i .i64), .l .s, .l .s, .l (.i .i64), .l (.i .i64), .l (.i .i64), .l (.i .i64), .l (.i .i64), .l (.i .i64), .l (.i .i64), .l (.i .i64), .l .b, .l .s, .l (.i .i64),
  .sl [.i .i64, .i .i64, .s, .s, .i .i64]]
def tsR : List LT := [.i .i64, .i .i64, .s, .s, .i .i64]
theorem flat36 : flat Try.prog 9 36 = some cts := by kernel_rfl
def bin (op : BinOp) (u v : Value) : Value := .iface (opCode op) (.agg #[u, v])
def un (c : Nat) (u : Value) : Value := .iface c (.agg #[u])
/-- 'len(Key) + len(Value) + len(Ans.Value) > 400' -/
def test : Value := bin .gtr (bin .add (bin .add (un 101 (LT.s.tk 8)) (un 101 (LT.s.tk 9))) (un 101 (LT.s.tk 19))) (.int .i64 400)
noncomputable def runH (S : Side) (sl : Value) (m : Mem) (r : Bool) : Option (Value × Mem) := (@exM S Try.prog noext (overH sl r) 1000 40).call 3 [.agg (absCells sl 0 cts).toArray] m
section
variable (W : World) (pin : Nat → Option (Nat × Nat)) (sym : Nat → Option Value)
theorem runN (r b : Bool) : isT (runH (mkSide W [(test, b)] pin sym) (absSl 5 none) (absMem tsR none) r) = true := by cases r <;> cases b <;> kernel_rfl
theorem runF (n : Nat) (b : Bool) : isT (runH (mkSide W [(test, b)] pin sym) (.chan (some (8 * 21 + 4))) emptyMem false) = true := by cases b <;> kernel_rfl
theorem runT0 (b : Bool) : ((List.range' 0 2).all fun n => isT (runH (mkSide W [(test, b)] pin sym) (absSl 5 (some n)) (absMem tsR (some n)) true)) = true := by cases b <;> kernel_rfl
theorem runT2 (b : Bool) : ((List.range' 2 2).all fun n => isT (runH (mkSide W [(test, b)] pin sym) (absSl 5 (some n)) (absMem tsR (some n)) true)) = true := by cases b <;> kernel_rfl
theorem runT4 (b : Bool) : ((List.range' 4 2).all fun n => isT (runH (mkSide W [(test, b)] pin sym) (absSl 5 (some n)) (absMem tsR (some n)) true)) = true := by cases b <;> kernel_rfl
theorem runT6 (b : Bool) : ((List.range' 6 2).all fun n => isT (runH (mkSide W [(test, b)] pin sym) (absSl 5 (some n)) (absMem tsR (some n)) true)) = true := by cases b <;> kernel_rfl
theorem runT8 (b : Bool) : ((List.range' 8 2).all fun n => isT (runH (mkSide W [(test, b)] pin sym) (absSl 5 (some n)) (absMem tsR (some n)) true)) = true := by cases b <;> kernel_rfl
theorem runT10 (b : Bool) : ((List.range' 10 2).all fun n => isT (runH (mkSide W [(test, b)] pin sym) (absSl 5 (some n)) (absMem tsR (some n)) true)) = true := by cases b <;> kernel_rfl
theorem runT12 (b : Bool) : ((List.range' 12 2).all fun n => isT (runH (mkSide W [(test, b)] pin sym) (absSl 5 (some n)) (absMem tsR (some n)) true)) = true := by cases b <;> kernel_rfl
theorem runT14 (b : Bool) : ((List.range' 14 2).all fun n => isT (runH (mkSide W [(test, b)] pin sym) (absSl 5 (some n)) (absMem tsR (some n)) true)) = true := by cases b <;> kernel_rfl
theorem runT16 (b : Bool) : ((List.range' 16 2).all fun n => isT (runH (mkSide W [(test, b)] pin sym) (absSl 5 (some n)) (absMem tsR (some n)) true)) = true := by cases b <;> kernel_rfl
theorem runT18 (b : Bool) : ((List.range' 18 2).all fun n => isT (runH (mkSide W [(test, b)] pin sym) (absSl 5 (some n)) (absMem tsR (some n)) true)) = true := by cases b <;> kernel_rfl
theorem runT20 (b : Bool) : ((List.range' 20 2).all fun n => isT (runH (mkSide W [(test, b)] pin sym) (absSl 5 (some n)) (absMem tsR (some n)) true)) = true := by cases b <;> kernel_rfl
theorem runT22 (b : Bool) : ((List.range' 22 15).all fun n => isT (runH (mkSide W [(test, b)] pin sym) (absSl 5 (some n)) (absMem tsR (some n)) true)) = true := by cases b <;> kernel_rfl
theorem runT37 (b : Bool) : ((List.range' 37 15).all fun n => isT (runH (mkSide W [(test, b)] pin sym) (absSl 5 (some n)) (absMem tsR (some n)) true)) = true := by cases b <;> kernel_rfl
theorem runT52 (b : Bool) : ((List.range' 52 15).all fun n => isT (runH (mkSide W [(test, b)] pin sym) (absSl 5 (some n)) (absMem tsR (some n)) true)) = true := by cases b <;> kernel_rfl
theorem runT67 (b : Bool) : ((List.range' 67 14).all fun n => isT (runH (mkSide W [(test, b)] pin sym) (absSl 5 (some n)) (absMem tsR (some n)) true)) = true := by cases b <;> kernel_rfl
theorem runT (b : Bool) (n : Nat) (h : n ≤ 80) : isT (runH (mkSide W [(test, b)] pin sym) (absSl 5 (some n)) (absMem tsR (some n)) true) = true := by
  rcases Nat.lt_or_ge n 2 with h2 | h2
  · exact List.all_eq_true.1 (runT0 W pin sym b) n (List.mem_range'_1.2 ⟨by omega, by omega⟩)
  rcases Nat.lt_or_ge n 4 with h4 | h4
  · exact List.all_eq_true.1 (runT2 W pin sym b) n (List.mem_range'_1.2 ⟨by omega, by omega⟩)
  rcases Nat.lt_or_ge n 6 with h6 | h6
  · exact List.all_eq_true.1 (runT4 W pin sym b) n (List.mem_range'_1.2 ⟨by omega, by omega⟩)
  rcases Nat.lt_or_ge n 8 with h8 | h8
  · exact List.all_eq_true.1 (runT6 W pin sym b) n (List.mem_range'_1.2 ⟨by omega, by omega⟩)
  rcases Nat.lt_or_ge n 10 with h10 | h10
  · exact List.all_eq_true.1 (runT8 W pin sym b) n (List.mem_range'_1.2 ⟨by omega, by omega⟩)
  rcases Nat.lt_or_ge n 12 with h12 | h12
  · exact List.all_eq_true.1 (runT10 W pin sym b) n (List.mem_range'_1.2 ⟨by omega, by omega⟩)
  rcases Nat.lt_or_ge n 14 with h14 | h14
  · exact List.all_eq_true.1 (runT12 W pin sym b) n (List.mem_range'_1.2 ⟨by omega, by omega⟩)
  rcases Nat.lt_or_ge n 16 with h16 | h16
  · exact List.all_eq_true.1 (runT14 W pin sym b) n (List.mem_range'_1.2 ⟨by omega, by omega⟩)
  rcases Nat.lt_or_ge n 18 with h18 | h18
  · exact List.all_eq_true.1 (runT16 W pin sym b) n (List.mem_range'_1.2 ⟨by omega, by omega⟩)
  rcases Nat.lt_or_ge n 20 with h20 | h20
  · exact List.all_eq_true.1 (runT18 W pin sym b) n (List.mem_range'_1.2 ⟨by omega, by omega⟩)
  rcases Nat.lt_or_ge n 22 with h22 | h22
  · exact List.all_eq_true.1 (runT20 W pin sym b) n (List.mem_range'_1.2 ⟨by omega, by omega⟩)
  rcases Nat.lt_or_ge n 37 with h37 | h37
  · exact List.all_eq_true.1 (runT22 W pin sym b) n (List.mem_range'_1.2 ⟨by omega, by omega⟩)
  rcases Nat.lt_or_ge n 52 with h52 | h52
  · exact List.all_eq_true.1 (runT37 W pin sym b) n (List.mem_range'_1.2 ⟨by omega, by omega⟩)
  rcases Nat.lt_or_ge n 67 with h67 | h67
  · exact List.all_eq_true.1 (runT52 W pin sym b) n (List.mem_range'_1.2 ⟨by omega, by omega⟩)
  rcases Nat.lt_or_ge n 81 with h81 | h81
  · exact List.all_eq_true.1 (runT67 W pin sym b) n (List.mem_range'_1.2 ⟨by omega, by omega⟩)
  omega
end
end Go.Eng.Hist
