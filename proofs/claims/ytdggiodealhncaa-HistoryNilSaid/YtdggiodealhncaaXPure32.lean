/- A part of the proof. -/
import Derived.Test.YtdggiodealhncaaXGuardH
set_option linter.unusedVariables false
set_option linter.unusedSimpArgs false
set_option linter.unusedSectionVars false
namespace Go.Proofs.Ytdggiodealhncaa.PHistoryNil
open Go.RowKit Go.Proofs.YtdggiodealhncaaW.PrintWords Go.Proofs.YtdggiodealhncaaW.PrintLast Go.Proofs.YtdggiodealhncaaW.PrintMore
theorem wrap_small (i : Int) (h0 : 0 ≤ i) (h : i ≤ 1000) : wrap64 (i + 1) = i + 1 := by
  unfold wrap64; omega
theorem light32_ends (xs : List S150) : ∀ (j : Nat) (i : Int), 0 ≤ i → i + j = 100 → ∃ k r, glebelaw08_Light.l0 k xs i = some r ∧ (r = true → xs.length ≤ 80)
  | 0, i, h0, hj => by
    refine ⟨2, decide ((xs.length : Int) ≤ 80), ?_, fun h => by have := of_decide_eq_true h; omega⟩
    simp only [glebelaw08_Light.l0, glebelaw08_Light.j1]
    split
    · rw [show decide (i < 100) = false from by simp; omega]; simp
    · simp
  | j + 1, i, h0, hj => by
    obtain ⟨k, r, h, hr⟩ := light32_ends xs j (i + 1) (by omega) (by omega)
    by_cases hlt : i < (xs.length : Int)
    · by_cases hbig : (wrap64 ((((rd_T150 xs i).f1).size : Int) + (((rd_T150 xs i).f2).size : Int))) > 300
      · refine ⟨2, false, ?_, fun h => by cases h⟩
        simp only [glebelaw08_Light.l0, glebelaw08_Light.j1]
        rw [if_pos hlt, show decide (i < 100) = true from by simp; omega, if_pos rfl, if_pos h0, if_pos hlt, if_pos hbig]
      · refine ⟨k + 2, r, ?_, hr⟩
        simp only [glebelaw08_Light.l0, glebelaw08_Light.j1]
        rw [if_pos hlt, show decide (i < 100) = true from by simp; omega, if_pos rfl, if_pos h0, if_pos hlt, if_neg hbig, wrap_small i h0 (by omega)]
        exact h
    · refine ⟨2, decide ((xs.length : Int) ≤ 80), ?_, fun h => by have := of_decide_eq_true h; omega⟩
      simp only [glebelaw08_Light.l0, glebelaw08_Light.j1]
      rw [if_neg hlt]; simp
/-- What law08.Light tells of records: in whichever later world. -/
theorem light32 (xs : List S150) : ∃ r : Bool, (r = true → xs.length ≤ 80) ∧ ∀ (w : World) (A : Option Addr) (c : Nat), Kd.C k150 w A xs.length xs → xs.length ≤ c →
    Calls Try.prog 32 #[.slice A xs.length c] w fun e w' => e = .returned (.bool r) ∧ Below w.heap.size w w' := by
  obtain ⟨k, r, h, hr⟩ := light32_ends xs 100 0 (by omega) (by omega)
  refine ⟨r, hr, fun w A c hC hc => (glebelaw08_Light.calls k A c xs r w hC hc h).mono fun e w' he => ⟨he.1, he.2.below⟩⟩
end Go.Proofs.Ytdggiodealhncaa.PHistoryNil
