/- HistoryNil: the law's walk, whatever came in. -/
import Derived.Test.YtdggiodealhncaaXHistN
set_option linter.unusedVariables false
set_option linter.unusedSimpArgs false
set_option linter.unusedSectionVars false
namespace Go.Eng.Hist
open Go.RowKit Go.Proofs Go.Proofs.Ytdggiodealhncaa.PHistoryNil Go.Proofs.YtdggiodealhncaaW.PrintWords
theorem choose_list {α : Type} (Q : Nat → α → Prop) : ∀ n, (∀ i, i < n → ∃ y, Q i y) → ∃ l : List α, l.length = n ∧ ∀ i y, l[i]? = some y → Q i y
  | 0, _ => ⟨[], rfl, fun i y h => by simp at h⟩
  | n + 1, h => by
    obtain ⟨l, h1, h2⟩ := choose_list Q n fun i hi => h i (by omega)
    obtain ⟨y, hy⟩ := h n (by omega)
    refine ⟨l ++ [y], by simp [h1], fun i z hz => ?_⟩
    rcases Nat.lt_trichotomy i n with hi | hi | hi
    · rw [List.getElem?_append_left (by omega)] at hz; exact h2 i z hz
    · subst hi
      rw [List.getElem?_append_right (by omega), h1, Nat.sub_self] at hz
      simp at hz; subst hz; exact hy
    · rw [List.getElem?_eq_none (by simp; omega)] at hz; cases hz
theorem recs {W : World} {a : Addr} {n c : Nat} (hn : n ≤ c) (hN : n ≤ 9223372036854775807) (h : ∀ i, i < c → ∀ (j : Nat) (t : LT), tsR[j]? = some t → ∃ u, W.cell? (a.add (i * 5 + j)) = some u ∧ t.is u) :
    ∃ xs : List S150, xs.length = n ∧ Kd.C k150 W (some a) n xs := by
  obtain ⟨xs, h1, h2⟩ := choose_list (fun i (x : S150) => ∀ j u, [Value.int .i64 x.f0.f0, .int .i64 x.f0.f1, .string x.f1, .string x.f2, .int .i64 x.f3][j]? = some u → W.cell? (a.add (i * 5 + j)) = some u) n fun i hi => by
    obtain ⟨u0, c0, n0, rfl⟩ := h i (by omega) 0 _ rfl
    obtain ⟨u1, c1, n1, rfl⟩ := h i (by omega) 1 _ rfl
    obtain ⟨u2, c2, n2, rfl⟩ := h i (by omega) 2 _ rfl
    obtain ⟨u3, c3, n3, rfl⟩ := h i (by omega) 3 _ rfl
    obtain ⟨u4, c4, n4, rfl⟩ := h i (by omega) 4 _ rfl
    refine ⟨⟨⟨n0, n1⟩, n2, n3, n4⟩, fun j u hu => ?_⟩
    match j with
    | 0 => simp at hu; subst hu; exact c0
    | 1 => simp at hu; subst hu; exact c1
    | 2 => simp at hu; subst hu; exact c2
    | 3 => simp at hu; subst hu; exact c3
    | 4 => simp at hu; subst hu; exact c4
    | j + 5 => simp at hu
  refine ⟨xs, h1, h1, hN, fun _ => ⟨a, rfl, fun j p hp => ⟨_, rfl, k150_mk W p, h2 j p hp⟩⟩⟩
theorem tok_str {W : World} {cs : List Value} (ht : Typed W cts cs) {p : Nat} (h : cts[p]? = some (.l .s)) : ∃ s, cs.getD p undef = .string s := by
  obtain ⟨v, h1, s, rfl⟩ := ht.2 p _ h
  exact ⟨s, by simp [List.getD_eq_getElem?_getD, h1]⟩
/-- Which way the test goes. -/
theorem test_goes {W : World} {cs elems : List Value} (ht : Typed W cts cs) {G : Ctx} (hG : G.sym = sigma cs elems) : ∃ b, symEv G.sym 10 test = some (.bool b) := by
  obtain ⟨s8, h8⟩ := tok_str ht (p := 8) rfl
  obtain ⟨s9, h9⟩ := tok_str ht (p := 9) rfl
  obtain ⟨s19, h19⟩ := tok_str ht (p := 19) rfl
  have e8 : G.sym 65 = .string s8 := by rw [hG]; exact h8
  have e9 : G.sym 73 = .string s9 := by rw [hG]; exact h9
  have e19 : G.sym 153 = .string s19 := by rw [hG]; exact h19
  refine ⟨decide (IntKind.i64.wrap (IntKind.i64.wrap ((s8.size : Int) + (s9.size : Int)) + (s19.size : Int)) > 400), ?_⟩
  simp only [test, bin, un, LT.tk, LT.ty, opCode, symEv, Nat.reduceMul, Nat.reduceAdd, e8, e9, e19]
  rfl
theorem walk (W : World) (cs : Array Value) (ht : Typed W cts cs.toList) : Calls Try.prog 3 #[.agg cs] W fun e w' => e = .returned (.bool true) ∧ Below W.heap.size W w' := by
  obtain ⟨sv, hsv, hsl⟩ := ht.2 21 _ rfl
  have hcells : ∀ (G : Ctx) (elems : List Value) (sl : Value), G.sym = sigma cs.toList elems → VRel G sl sv → VL G [.agg (absCells sl 0 cts).toArray] [.agg cs] := fun G elems sl hG hr => by
    have h1 := absCells_rel (w := W) hG (sl := sl) cts 0 (by decide) (fun j c hj => by rw [Nat.zero_add]; exact ht.2 j c hj) (fun j ts hj => by
      have hj21 : j = 21 := onlyAt_eq (by decide) hj
      subst hj21
      simp [List.getD_eq_getElem?_getD, hsv]; exact hr)
    rw [List.drop_zero, List.take_of_length_le (by rw [ht.1]; exact Nat.le_refl _)] at h1
    exact .cons (.agg _ _ (by have := h1.length; simp at this; simp; omega) fun i x y hx hy => h1.get i x y (by simpa using hx) (by simpa using hy)) .nil
  -- the records
  have hrec : ∃ A n c xs, sv = .slice A n c ∧ n ≤ c ∧ xs.length = n ∧ Kd.C k150 W A n xs ∧ (A = none → n = 0 ∧ c = 0) := by
    rcases hsl with rfl | ⟨a, n, c, rfl, hn, hmax, hc⟩
    · exact ⟨none, 0, 0, [], rfl, Nat.le_refl _, rfl, ⟨rfl, by omega, fun h => by omega⟩, fun _ => ⟨rfl, rfl⟩⟩
    · unfold maxLen at hmax
      obtain ⟨xs, h1, h2⟩ := recs hn (by omega) hc
      exact ⟨some a, n, c, xs, rfl, hn, h1, h2, fun h => by cases h⟩
  obtain ⟨A, n, c, xs, rfl, hnc, hxs, hC, hnil⟩ := hrec
  obtain ⟨r, hr, hcalls⟩ := light32 xs
  have later : ∀ w, Below W.heap.size W w → Kd.C k150 w A n xs := fun w hb => Kd.C_below hC hb
  have run : ∀ (sl : Value) (m : Mem) (G : Ctx) (elems : List Value) (pin : Nat → Option (Nat × Nat)) (sym : Nat → Option Value), R G (.to W.heap.size) m W → G.sym = sigma cs.toList elems → VRel G sl (.slice A n c) → (∀ k p, pin k = some p → G.f k = some p) → (∀ k v, sym k = some v → G.sym k = v) →
      (∀ b, isT (runH (mkSide W [(test, b)] pin sym) sl m r) = true) →
      (∀ (b : Bool) (G' : Ctx) (B : Prot) (w : World) (v' : Value), @Side.φ (mkSide W [(test, b)] pin sym) G' B w → VRel G' sl v' → ∃ A' c', v' = .slice A' n c' ∧ n ≤ c' ∧ (n = 0 ∨ A' = A)) →
      Calls Try.prog 3 #[.agg cs] W fun e w' => e = .returned (.bool true) ∧ Below W.heap.size W w' := fun sl m G elems pin sym hR hG hv hpin hsym hrun hagain => by
    obtain ⟨b, hb⟩ := test_goes ht hG
    obtain ⟨m', hm'⟩ := isT_eq (hrun b)
    refine law_calls (S := mkSide W [(test, b)] pin sym) (m' := m') (u := .bool true) ?_ rfl hR (mkSide_φ hpin (fun p hp => by
      rw [List.mem_singleton] at hp; subst hp; exact ⟨10, hb⟩) hsym) (hcells G elems sl hG hv)
    letI := mkSide W [(test, b)] pin sym
    refine (exM_ok (lim := 1000) (fun _ _ _ _ _ h => by cases h) (overH_ok ?_) mixed 40).call _ _ _ _ _ hm'
    intro G' B w v' hφ hv'
    obtain ⟨A', c', rfl, h1, h2⟩ := hagain b G' B w v' hφ hv'
    subst hxs
    refine hcalls w A' c' ?_ h1
    rcases h2 with h2 | rfl
    · exact ⟨rfl, by omega, fun h => by omega⟩
    · exact later w hφ.fact
  cases r with
  | false =>
    refine run (.chan (some (8 * 21 + 4))) emptyMem { f := fun _ => none, sz := fun _ => 0, sym := sigma cs.toList [] } [] (fun _ => none) (fun k => if k = 8 * 21 + 4 then some (.slice A n c) else none) ?_ rfl ?_ (fun _ _ h => (by cases h)) ?_ (fun b => runF W _ _ 0 b) ?_
    · exact R.nothing _ W
    · refine .tok _ _ rfl ?_
      show sigma cs.toList [] (8 * 21 + 4) = Value.slice A n c
      simp [sigma, List.getD_eq_getElem?_getD, hsv]
    · intro k v hk
      split at hk
      · rename_i hk'; cases hk; subst hk'
        show sigma cs.toList [] (8 * 21 + 4) = Value.slice A n c
        simp [sigma, List.getD_eq_getElem?_getD, hsv]
      · cases hk
    · intro b G' B w v' hφ hv'
      cases hv' with
      | tok k v h e =>
        have := Side.φ.sym (S := mkSide W [(test, b)] _ _) hφ (8 * 21 + 4) (.slice A n c) (if_pos rfl)
        rw [this] at e
        exact ⟨A, c, e.symm, hnc, .inr rfl⟩
  | true =>
    have hn80 : n ≤ 80 := by rw [← hxs]; exact hr rfl
    obtain ⟨G, sh, elems, hR, hG, hvr, hinfo⟩ := init (cells := cs.toList) hsl (by decide)
    cases sh with
    | none =>
      cases hinfo
      refine run _ _ G elems (fun _ => none) (fun _ => none) hR hG hvr (fun _ _ h => (by cases h)) (fun _ _ h => (by cases h)) (fun b => runN W _ _ true b) ?_
      intro b G' B w v' hφ hv'
      cases hv' with
      | nilSlice => exact ⟨none, 0, rfl, Nat.le_refl _, .inl rfl⟩
    | some n' =>
      obtain ⟨a', c', hq, _⟩ := hinfo
      cases hq
      refine run _ _ G elems (fun k => if k = 0 then G.f 0 else none) (fun _ => none) hR hG hvr (fun k p h => by
        split at h
        · rename_i hk; subst hk; exact h
        · cases h) (fun _ _ h => (by cases h)) (fun b => runT W _ _ b n hn80) ?_
      intro b G' B w v' hφ hv'
      obtain ⟨A', c', h1, h2, h3⟩ := slice_again hvr (fun p hp => Side.φ.pin (S := mkSide W [(test, b)] _ _) hφ 0 p (by show (if (0 : Nat) = 0 then G.f 0 else none) = some p; rw [if_pos rfl]; exact hp)) hv'
      exact ⟨A', c', h1, h2, h3⟩
end Go.Eng.Hist
