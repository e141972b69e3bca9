/- slices.Delete of one element of five cells, as the engine sees it. -/
import Derived.Test.YtodoblbekdmjhaaEngC
set_option linter.unusedVariables false
set_option linter.unusedSimpArgs false
set_option linter.unusedSectionVars false
namespace Go.Eng
open Go.RowKit
def zeros5 : List Value := [.int .i64 0, .int .i64 0, .string ByteArray.empty, .string ByteArray.empty, .int .i64 0]
def DelRun (P : Program) (f : FuncId) : Prop :=
  ∀ (w : World) (b o n c i : Nat) (news : List Value), i + 1 ≤ n → n ≤ c → news.length = (n - (i + 1)) * 5 →
    (∀ t u, news[t]? = some u → w.cell? ⟨b, o + (i + 1) * 5 + t, none⟩ = some u) → (∀ u ∈ news, u.oneCell' = true) →
    (∀ t, t < n * 5 → (w.cell? ⟨b, o + t, none⟩).isSome = true ∧ w.frozen? ⟨b, o + t, none⟩ = false) →
    (∀ t, t < 5 → ((w.drew.setCells b (o + i * 5) news).cell? ⟨b, o + (n - 1) * 5 + t, none⟩).isSome = true ∧ (w.drew.setCells b (o + i * 5) news).frozen? ⟨b, o + (n - 1) * 5 + t, none⟩ = false) →
    Calls P f #[.slice (some ⟨b, o, none⟩) n c, .int .i64 i, .int .i64 ((i + 1 : Nat) : Int)] w fun e w' => e = .returned (.slice (some ⟨b, o, none⟩) (n - 1) c) ∧ w' = (w.drew.setCells b (o + i * 5) news).setCells b (o + (n - 1) * 5) zeros5
def aDel (m : Mem) (vs : List Value) : Option (Value × Mem) :=
  match vs with
  | [.slice (some ⟨k, off, none⟩) n es, .int .i64 i, .int .i64 j] =>
    match m.h.get k with
    | some (.cells cs g true) =>
      if es = 5 ∧ 0 ≤ i ∧ j = i + 1 ∧ j ≤ n ∧ m.ok g ≤ k ∧ off + n * 5 ≤ cs.length then
        match astoreCells m (.pointer (some ⟨k, off + i.toNat * 5, none⟩)) ((cs.drop (off + (i.toNat + 1) * 5)).take ((n - (i.toNat + 1)) * 5)) with
        | some m1 => (astoreCells m1 (.pointer (some ⟨k, off + (n - 1) * 5, none⟩)) zeros5).map fun m2 => (.slice (some ⟨k, off, none⟩) (n - 1) 5, m2)
        | none => none
      else none
    | _ => none
  | _ => none
theorem cells_facts {w : World} {b : Nat} {c : Array Value} {t : TypeId} (h : w.heap[b]? = some (.cells c t (0, 0))) {x : Nat} (hx : x < c.size) : (w.cell? ⟨b, x, none⟩) = some c[x] ∧ w.frozen? ⟨b, x, none⟩ = false := by
  constructor
  · simp [World.cell?, h, hx]
  · simp [World.frozen?, h]
theorem zeros5_rel (G : Ctx) : ∀ (i : Nat) (x y : Value), zeros5[i]? = some x → zeros5[i]? = some y → VRel G x y := by
  intro i x y h1 h2
  rw [h1] at h2; cases h2
  match i with
  | 0 | 1 | 4 => cases h1; exact .int _ _
  | 2 | 3 => cases h1; exact .string _
  | n + 5 => simp [zeros5] at h1
theorem aDel_ok {P : Program} [Side] {f : FuncId} (hd : DelRun P f) {vs : List Value} {m m' : Mem} {v : Value} (h : aDel m vs = some (v, m')) : ACall P f vs m fun v1 m1 => v1 = v ∧ m1 = m' := by
  unfold aDel at h
  split at h
  · rename_i k off n es i j
    split at h
    · rename_i cs g ho
      split at h
      · rename_i hc
        obtain ⟨rfl, hi0, rfl, hjn, hok, hfit⟩ := hc
        split at h
        · rename_i m1 h1
          obtain ⟨m2, h2, h3⟩ := Option.map_eq_some_iff.1 h
          cases h3
          obtain ⟨i, rfl⟩ := Int.eq_ofNat_of_zero_le hi0
          simp only [Int.toNat_natCast] at h1
          have hjn' : i + 1 ≤ n := by omega
          intro G B w args' hR hφ hv
          cases hv with
          | cons hv1 hv =>
          cases hv with
          | cons hv2 hv =>
          cases hv with
          | cons hv3 hv =>
          cases hv
          cases hv2
          cases hv3
          cases hv1 with
          | slice0 => omega
          | slice hk hn hc =>
            rename_i b d c
            obtain ⟨o, ho', r⟩ := hR.obj _ _ _ hk
            rw [ho] at ho'; cases ho'
            obtain ⟨cc, t, fz, q1, q2, q3, q4⟩ := r
            obtain ⟨q5, q6⟩ := q3 rfl
            subst q6
            obtain ⟨q7, q8⟩ := q4 hok
            rw [← q2] at hc
            have hcap : n * 5 ≤ c * 5 := Nat.mul_le_mul_right 5 hn
            obtain ⟨news, hnews⟩ : ∃ news, news = (cc.toList.drop (d + off + (i + 1) * 5)).take ((n - (i + 1)) * 5) := ⟨_, rfl⟩
            have hlen : news.length = (n - (i + 1)) * 5 := by rw [hnews]; simp; omega
            have hget : ∀ x u, news[x]? = some u → x < (n - (i + 1)) * 5 ∧ cc[d + off + (i + 1) * 5 + x]? = some u := by
              intro x u hu
              have hx : x < (n - (i + 1)) * 5 := by rw [← hlen]; exact (List.getElem?_eq_some_iff.1 hu).1
              rw [hnews, List.getElem?_take_of_lt hx, List.getElem?_drop] at hu
              exact ⟨hx, by simpa using hu⟩
            have hrel : ∀ (x : Nat) (u y : Value), ((cs.drop (off + (i + 1) * 5)).take ((n - (i + 1)) * 5))[x]? = some u → news[x]? = some y → u.oneCell' = true ∧ VRel G u y := by
              intro x u y hu hy
              obtain ⟨hx, hy'⟩ := hget x y hy
              rw [List.getElem?_take_of_lt hx, List.getElem?_drop] at hu
              obtain ⟨e1, y', e2, e3⟩ := q8 _ _ hu
              rw [show d + (off + (i + 1) * 5 + x) = d + off + (i + 1) * 5 + x by omega, hy'] at e2
              cases e2
              exact ⟨e1, e3⟩
            have hone : ∀ u ∈ news, u.oneCell' = true := by
              intro u hu
              obtain ⟨x, hx, rfl⟩ := List.getElem_of_mem hu
              have hx' : x < ((cs.drop (off + (i + 1) * 5)).take ((n - (i + 1)) * 5)).length := by rw [hlen] at hx; simp; omega
              have := hrel x _ news[x] (List.getElem?_eq_getElem hx') (by simp [hx])
              rw [this.2.one]; exact this.1
            obtain ⟨a1, w1, ha1, hs1, hR1, hB1⟩ := astoreCells_run hR.drew P h1 (.ptr hk) (vs' := news) (by rw [hlen]; simp; omega) (fun x u y hu hy => (hrel x u y hu hy).2)
            cases ha1
            have hs1' := run_storeCells_cells (P := P) b (d + (off + i * 5)) news 0 w.drew (fun x hx => by rw [hlen] at hx; rw [(cells_facts (w := w.drew) (b := b) (c := cc) (t := t) q1 (x := d + (off + i * 5) + 0 + x) (by omega)).1]; rfl) (fun x hx => by rw [hlen] at hx; exact (cells_facts (w := w.drew) (b := b) (c := cc) (t := t) q1 (x := d + (off + i * 5) + 0 + x) (by omega)).2) hone
            rw [hs1] at hs1'
            have hw1 : w1 = w.drew.setCells b (d + off + i * 5) news := by
              cases hs1'
              rw [show d + off + i * 5 = d + (off + i * 5) + 0 by omega]
            obtain ⟨o1, ho1, r1⟩ := hR1.obj _ _ _ hk
            have hg1 : m1.h.get k = some (.cells (lset cs (off + i * 5) ((cs.drop (off + (i + 1) * 5)).take ((n - (i + 1)) * 5))) g true) := by
              unfold astoreCells at h1
              simp only [ho] at h1
              split at h1
              · cases h1; simp [Mem.write, T.get_set]
              · cases h1
            rw [hg1] at ho1; cases ho1
            obtain ⟨c1, t1, fz1, p1, p2, p3, p4⟩ := r1
            obtain ⟨p5, p6⟩ := p3 rfl
            subst p6
            have hsz : c1.size = cc.size := by rw [p2, q2]
            obtain ⟨a2, w2, ha2, hs2, hR2, hB2⟩ := astoreCells_run hR1 P h2 (.ptr hk) (vs' := zeros5) rfl (zeros5_rel G)
            cases ha2
            have hfacts : ∀ x, x < 5 → (w1.cell? ⟨b, d + off + (n - 1) * 5 + x, none⟩).isSome = true ∧ w1.frozen? ⟨b, d + off + (n - 1) * 5 + x, none⟩ = false := by
              intro x hx
              have := cells_facts p1 (x := d + off + (n - 1) * 5 + x) (by omega)
              exact ⟨by rw [this.1]; rfl, this.2⟩
            have hs2' := run_storeCells_cells (P := P) b (d + (off + (n - 1) * 5)) zeros5 0 w1 (fun x hx => by have := hfacts x hx; rw [show d + (off + (n - 1) * 5) + 0 + x = d + off + (n - 1) * 5 + x by omega]; exact this.1) (fun x hx => by have := hfacts x hx; rw [show d + (off + (n - 1) * 5) + 0 + x = d + off + (n - 1) * 5 + x by omega]; exact this.2) (by decide)
            rw [hs2] at hs2'
            have hw2 : w2 = w1.setCells b (d + off + (n - 1) * 5) zeros5 := by
              cases hs2'
              rw [show d + off + (n - 1) * 5 = d + (off + (n - 1) * 5) + 0 by omega]
            have hrun := hd w b (d + off) n c i news hjn' hn hlen (fun x u hu => by
                obtain ⟨hx, hy⟩ := hget x u hu
                have hlt := (Array.getElem?_eq_some_iff.1 hy).1
                rw [(cells_facts q1 hlt).1, ← hy]; simp [hlt]) hone
              (fun x hx => by have := cells_facts q1 (x := d + off + x) (by omega); exact ⟨by rw [this.1]; rfl, this.2⟩)
              (fun x hx => by rw [← hw1]; exact hfacts x hx)
            refine hrun.mono fun e w' ⟨he, hw'⟩ => ?_
            subst he
            rw [← hw1, ← hw2] at hw'
            subst hw'
            exact ⟨_, _, G, _, rfl, ⟨rfl, rfl⟩, ⟨Grow.refl G _, ((Keep.refl B w).drew).trans (hB1.trans hB2)⟩, hR2, .slice hk (by omega) (by rw [← q2]; exact hc)⟩
        · cases h
      · cases h
    · cases h
  · cases h
def overDel (dl : FuncId) : Ext0 := fun f vs m => if f = dl then aDel m vs else none
theorem overDel_ok {P : Program} [Side] {dl : FuncId} (hd : DelRun P dl) : ∀ f vs m v m', overDel dl f vs m = some (v, m') → ACall P f vs m fun v1 m1 => v1 = v ∧ m1 = m' := by
  intro f vs m v m' h
  unfold overDel at h
  split at h
  · rename_i hf; subst hf; exact aDel_ok hd h
  · cases h
theorem closed_runD {P : Program} {fc fo : FuncId} {tS tR e : TypeId} {size : Nat} (x : Ext2 P fc fo tS tR e size) (hm : P.follows .mixedOrders = true) {dl : FuncId} (hd : DelRun P dl) {f : FuncId} {lim n : Nat} {u : Value} {m' : Mem}
    (h : (@exM noSide P (ext2 fc fo) (overDel dl) lim n).call f [] emptyMem = some (u, m')) (hu : scal u = true) (w : World) : Calls P f #[] w fun e w' => e = .returned u ∧ Below w.heap.size w w' := by
  letI := noSide
  exact closed_calls ((exM_ok (lim := lim) (@Ext2.ok _ _ _ _ _ _ _ x noSide) (overDel_ok hd) hm n).call f [] emptyMem u m' h) (fun v1 m1 h1 G v' hv => by rw [h1.1] at hv; exact scal_eq hu hv) w
end Go.Eng
