/- slices.Delete of one element: the walk. -/
import Derived.Test.YtodoblbekdmjhaaRows
import Derived.Test.YtodoblbekdmjhaaXDel0
import Derived.Deep.RegionLaw
import Derived.WalkKit
import Derived.Deep.LoopGhost
import Derived.Lib.SliceRun
import Derived.Lib.Walk
import Derived.Shelf.RegionOpenPlain
set_option linter.unusedVariables false
set_option linter.unusedSimpArgs false
set_option linter.unusedSectionVars false
set_option maxHeartbeats 4000000
set_option maxRecDepth 1000000
namespace Go.Eng.QuaN
open Go.RowKit Go.Proofs Go.Lib
theorem info42 : ∃ inf, Try.prog.info? 42 = some inf ∧ inf.size = 5 := by
  refine ⟨_, rfl, by kernel_rfl⟩
theorem und34 : Try.prog.underlying 34 = some (.slice 42) := by kernel_rfl
theorem mixed : Try.prog.follows .mixedOrders = true := by kernel_rfl
theorem del_run (w : World) (b o n c i j : Nat) (news : List Value) (hi : i < j) (hj : j ≤ n) (hn : n ≤ c) (hlen : news.length = (n - j) * 5)
    (hsrc : ∀ t u, news[t]? = some u → w.cell? ⟨b, o + j * 5 + t, none⟩ = some u) (h1 : ∀ u ∈ news, u.oneCell' = true)
    (hdst : ∀ t, t < n * 5 → (w.cell? ⟨b, o + t, none⟩).isSome = true ∧ w.frozen? ⟨b, o + t, none⟩ = false) (zs : List Value)
    (hcl : ∀ ty W1, W1 = w.drew.setCells b (o + i * 5) news → (Builtin.clear_ #[34] ty #[.slice (some ⟨b, o + (i + (n - j)) * 5, none⟩) (n - (i + (n - j))) (c - (i + (n - j)))]).run Try.prog W1 = .ok (.tuple #[]) (W1.setCells b (o + (i + (n - j)) * 5) zs)) :
    Calls Try.prog 59 #[.slice (some ⟨b, o, none⟩) n c, .int .i64 i, .int .i64 j] w fun e w' => e = .returned (.slice (some ⟨b, o, none⟩) (i + (n - j)) c) ∧ w' = (w.drew.setCells b (o + i * 5) news).setCells b (o + (i + (n - j)) * 5) zs := by
  obtain ⟨inf, hinf, hsz⟩ := info42
  have mixed := mixed
  obtain ⟨A, hA, hA2⟩ : ∃ A : Addr, (if c = j then (some ⟨b, o, none⟩ : Option Addr) else some ⟨b, o + j * 5, none⟩) = some A ∧ Hid (∀ t u, news[t]? = some u → w.drew.cell? (A.add t) = some u) := by
    by_cases h : c = j
    · refine ⟨⟨b, o, none⟩, by simp [h], fun t u hu => ?_⟩
      have h0 : news.length = 0 := by rw [hlen]; omega
      rw [List.length_eq_zero_iff.1 h0] at hu
      simp at hu
    · refine ⟨⟨b, o + j * 5, none⟩, by simp [h], fun t u hu => ?_⟩
      rw [Addr.add_lit]; exact hsrc t u hu
  have s1 : Hid (news.length = (n - j) * 5) := hlen
  have s2 : Hid (∀ u ∈ news, u.oneCell' = true) := h1
  have s3 : Hid (∀ t, t < news.length → (w.drew.cell? ⟨b, o + i * 5 + t, none⟩).isSome = true ∧ w.drew.frozen? ⟨b, o + i * 5 + t, none⟩ = false) := by
    intro t ht
    rw [hlen] at ht
    rw [Nat.add_assoc]
    exact hdst (i * 5 + t) (by omega)
  obtain ⟨W1, hW1⟩ : ∃ W1, W1 = w.drew.setCells b (o + i * 5) news := ⟨_, rfl⟩
  have hW : Hid (W1 = w.drew.setCells b (o + i * 5) news) := hW1
  have hcl' := fun ty => hcl ty W1 hW1
  rw [← hW1]
  have hic : i ≤ c := by omega
  have hjc : j ≤ c := by omega
  clear hW1 hsrc hdst h1 hlen hcl
  have t34 := und34
  go_enter Try.func59, Try.ntmps59
  go_wp2_with fail
  go_region_law_o (refine step_append_room rfl (.tmp 22) (.tmp 25) 34 rfl 42 inf 5 t34 hinf hsz b o i c (by simp [Act.eval, Act.put]) A (n - j) (c - j) news (by simp [Act.eval, Act.put]) s1.out hA2.out s2.out (by omega) s3.out ?_; rw [← hW.out])
  go_wp2
  go_ret
  exact ⟨rfl, rfl⟩
theorem zero42 (w : World) : (zeroValue 42).run Try.prog w = .ok (.agg zeros5.toArray) w := by kernel_rfl
theorem clear_run (w : World) (ty : TypeId) (b o c : Nat) (hc : ∀ t, t < 5 → (w.cell? ⟨b, o + t, none⟩).isSome = true ∧ w.frozen? ⟨b, o + t, none⟩ = false) :
    (Builtin.clear_ #[34] ty #[.slice (some ⟨b, o, none⟩) 1 c]).run Try.prog w = .ok (.tuple #[]) (w.setCells b o zeros5) := by
  have hst := run_storeCells_cells (P := Try.prog) b o zeros5 0 w (fun j hj => (hc j hj).1) (fun j hj => (hc j hj).2) (by decide)
  obtain ⟨z, hz0, hzc⟩ : ∃ z, (∀ w, (zeroValue 42).run Try.prog w = .ok z w) ∧ (Builtin.zeroCells z.cells 1).toList = zeros5 := ⟨.agg zeros5.toArray, zero42, by kernel_rfl⟩
  simp only [Nat.add_zero] at hst
  simp [Builtin.clear_, run_underlying und34, hz0, hzc, hst]
theorem delRun : DelRun Try.prog 59 := by
  intro w b o n c i news hi hn hlen hsrc h1 hdst hcl
  have e : n - (i + (n - (i + 1))) = 1 := by omega
  have e2 : i + (n - (i + 1)) = n - 1 := by omega
  have := del_run w b o n c i (i + 1) news (by omega) hi hn hlen hsrc h1 hdst zeros5 (fun ty W1 hW => by
    rw [e, e2]
    exact clear_run W1 ty b _ _ (fun t ht => by rw [hW]; exact hcl t ht))
  rwa [e2] at this
end Go.Eng.QuaN
