/- What arguments read as: cells of known kinds. -/
import Derived.Test.YtodoblbekdmjhaaEngB
import Derived.ProofKit
import Derived.OpenShut
import Derived.ChangeShapes
import Derived.WideShapes
import Derived.Deep.Slices
import Derived.Deep.MidRow
import Derived.RowKit
import Derived.Lib.Overlaps
set_option linter.unusedVariables false
set_option linter.unusedSimpArgs false
set_option linter.unusedSectionVars false
namespace Go.Eng
open Go.RowKit Go.ChangeShapes Go.WideShapes Go.Deep
/-- The kind of a cell. -/
inductive LT where
  | b | s | i (k : IntKind)
def LT.is : LT → Value → Prop
  | .b, v => ∃ b, v = .bool b
  | .s, v => ∃ s, v = .string s
  | .i k, v => ∃ n, v = .int k n
/-- .. or a slice of elements of several cells. -/
inductive CT where
  | l (t : LT)
  | sl (ts : List LT)
def CT.is (w : World) : CT → Value → Prop
  | .l t, v => t.is v
  | .sl ts, v => v = .slice none 0 0 ∨ ∃ a n c, v = .slice (some a) n c ∧ n ≤ c ∧ c ≤ maxLen ∧ ∀ i, i < c → ∀ (j : Nat) (t : LT), ts[j]? = some t → ∃ u, w.cell? (a.add (i * ts.length + j)) = some u ∧ t.is u
def leaves : List CT → Option (List LT)
  | [] => some []
  | .l t :: r => (leaves r).map (t :: ·)
  | .sl _ :: _ => none
def flatFs (rec : TypeId → Option (List CT)) (P : Program) (off : Nat) : List Field → Option (List CT)
  | [] => some []
  | f :: fs => match rec f.type with
    | some c => if f.offset = off ∧ c.length = P.cellsOf f.type then (flatFs rec P (off + c.length) fs).map (c ++ ·) else none
    | none => none
def flat (P : Program) : Nat → TypeId → Option (List CT)
  | 0, _ => none
  | d + 1, t =>
    match P.underlying t with
    | some .bool => some [.l .b]
    | some (.int k) => some [.l (.i k)]
    | some .string => some [.l .s]
    | some (.slice e) => match flat P d e with
      | some c => match leaves c with
        | some ts => if ts.length = P.cellsOf e then some [.sl ts] else none
        | none => none
      | none => none
    | some (.struct fs) => match flatFs (flat P d) P 0 fs.toList with
      | some c => if c.length = P.cellsOf t then some c else none
      | none => none
    | some (.array n e) => match flat P d e with
      | some c => if c.length = P.cellsOf e ∧ n * c.length = P.cellsOf t then some ((List.replicate n c).flatten) else none
      | none => none
    | _ => none
def Typed (w : World) (cts : List CT) (cs : List Value) : Prop := cs.length = cts.length ∧ ∀ (j : Nat) (c : CT), cts[j]? = some c → ∃ v, cs[j]? = some v ∧ c.is w v
theorem Typed.append {w : World} {a b : List CT} {x y : List Value} (h : Typed w a x) (k : Typed w b y) : Typed w (a ++ b) (x ++ y) := by
  refine ⟨by simp [h.1, k.1], fun j c hj => ?_⟩
  rcases Nat.lt_or_ge j a.length with hl | hl
  · rw [List.getElem?_append_left hl] at hj
    rw [List.getElem?_append_left (by rw [h.1]; exact hl)]
    exact h.2 j c hj
  · rw [List.getElem?_append_right hl] at hj
    rw [List.getElem?_append_right (by rw [h.1]; exact hl), h.1]
    exact k.2 _ c hj
theorem Typed.one {w : World} {c : CT} {v : Value} (h : c.is w v) : Typed w [c] [v] := ⟨rfl, fun j d hj => by
  cases j with
  | zero => simp at hj; subst hj; exact ⟨v, rfl, h⟩
  | succ j => simp at hj⟩
theorem leaves_at : ∀ {cts : List CT} {ts : List LT}, leaves cts = some ts → cts = ts.map .l
  | [], ts, h => by simp only [leaves, Option.some.injEq] at h; subst h; rfl
  | .l t :: r, ts, h => by
    simp only [leaves] at h
    obtain ⟨ts', h1, rfl⟩ := Option.map_eq_some_iff.1 h
    rw [leaves_at h1]; rfl
  | .sl _ :: _, ts, h => by simp [leaves] at h
section
variable {H : Type} {enc : TypeId × Value → H} {P : Program} {w : World}
theorem flatFs_typed {rec : TypeId → Option (List CT)} {m : Nat} {cs : List Value} (hrec : ∀ t cts cs x, rec t = some cts → DataW.trod enc P w 0 (fun _ => true) true m t cs = some x → Typed w cts cs) :
    ∀ (fs : List Field) (off : Nat) (cts : List CT), flatFs rec P off fs = some cts → (∀ f ∈ fs, ∃ x, DataW.trod enc P w 0 (fun _ => true) true m f.type ((cs.drop f.offset).take (P.cellsOf f.type)) = some x) →
      Typed w cts ((cs.drop off).take cts.length)
  | [], off, cts, h, _ => by
    simp only [flatFs, Option.some.injEq] at h; subst h
    exact ⟨by simp, fun j c hj => by simp at hj⟩
  | f :: fs, off, cts, h, hf => by
    simp only [flatFs] at h
    split at h
    · rename_i c hc
      split at h
      · rename_i ho
        obtain ⟨ho, hl⟩ := ho
        obtain ⟨r, h1, rfl⟩ := Option.map_eq_some_iff.1 h
        obtain ⟨x, hx⟩ := hf f (by simp)
        have t1 := hrec _ _ _ _ hc hx
        have t2 := flatFs_typed hrec fs _ r h1 fun g hg => hf g (by simp [hg])
        rw [ho, ← hl] at t1
        have e : (cs.drop off).take (c ++ r).length = (cs.drop off).take c.length ++ (cs.drop (off + c.length)).take r.length := by
          rw [List.length_append, List.take_add, List.drop_drop]
        rw [e]; exact t1.append t2
      · cases h
    · cases h
theorem flat_typed : ∀ (d : Nat) (t : TypeId) (cts : List CT), flat P d t = some cts → ∀ (n : Nat) (cs : List Value) (x : DataW H × List MemPlace), DataW.trod enc P w 0 (fun _ => true) true n t cs = some x → Typed w cts cs := by
  intro d
  induction d with
  | zero => intro t cts h; simp [flat] at h
  | succ d ih =>
    intro t cts h n cs x hx
    simp only [flat] at h
    split at h
    · rename_i ht
      cases h
      obtain ⟨m, rfl, _⟩ := DataW.trod_bool ht hx
      exact .one ⟨m, rfl⟩
    · rename_i k ht
      cases h
      obtain ⟨m, rfl, _⟩ := DataW.trod_int ht hx
      exact .one ⟨m, rfl⟩
    · rename_i ht
      cases h
      obtain ⟨m, rfl, _⟩ := DataW.trod_string ht hx
      exact .one ⟨m, rfl⟩
    · rename_i e ht
      split at h
      · rename_i c hc
        split at h
        · rename_i ts hts
          split at h
          · rename_i hlen
            cases h
            rcases open_slice ht hx with ⟨rfl, _⟩ | ⟨a, len, cap, m, k, D, Pl, rfl, _, hl, hm, hmm, _, hi⟩
            · exact .one (.inl rfl)
            · simp only [if_true] at hmm
              subst hmm
              refine .one (.inr ⟨a, len, _, rfl, hl, hm, fun i hi' j tt hj => ?_⟩)
              obtain ⟨c', hc', ht'⟩ := hi i hi'
              have ty := ih e c hc k c' _ ht'
              rw [leaves_at hts] at ty
              obtain ⟨u, hu, hu2⟩ := ty.2 j (.l tt) (by simp [hj])
              obtain ⟨_, hcl, hat⟩ := World.cells?_some hc'
              have hjl : j < P.cellsOf e := by rw [← hlen]; exact (List.getElem?_eq_some_iff.1 hj).1
              have := hat j hjl
              refine ⟨u, ?_, hu2⟩
              rw [hlen, ← Go.Deep.add_add, this, hu]
          · cases h
        · cases h
      · cases h
    · rename_i fs ht
      split at h
      · rename_i c hc
        split at h
        · rename_i hlen
          cases h
          obtain ⟨xs, m, rfl, _, hcl, hxs, hat⟩ := DataW.trod_struct ht hx
          have := flatFs_typed (cs := cs) (fun t cts cs x h1 h2 => ih t cts h1 m cs x h2) fs.toList 0 cts hc fun f hf' => by
            obtain ⟨i, hi, rfl⟩ := List.getElem_of_mem hf'
            have h1 := hat i fs[i] (by simp)
            rw [List.getElem?_eq_getElem (by simpa [hxs] using hi)] at h1
            exact ⟨_, by simpa using h1⟩
          rw [List.drop_zero, List.take_of_length_le (by omega)] at this
          exact this
        · cases h
      · cases h
    · rename_i k e ht
      split at h
      · rename_i c hc
        split at h
        · rename_i hlen
          cases h
          obtain ⟨xs, m, rfl, _, hcl, hxs, hat⟩ := DataW.trod_array ht hx
          have key : ∀ q, q ≤ k → Typed w (List.replicate q c).flatten (cs.take (q * c.length)) := by
            intro q
            induction q with
            | zero => intro _; exact ⟨by simp, fun j c hj => by simp at hj⟩
            | succ q ihq =>
              intro hq
              have h1 := hat q (by omega)
              rw [List.getElem?_eq_getElem (by omega)] at h1
              have t1 := ih e c hc m _ _ h1
              rw [← hlen.1] at t1
              have e1 : (List.replicate (q + 1) c).flatten = (List.replicate q c).flatten ++ c := by
                rw [List.replicate_succ', List.flatten_append]; simp
              have e2 : cs.take ((q + 1) * c.length) = cs.take (q * c.length) ++ (cs.drop (q * c.length)).take c.length := by
                rw [Nat.succ_mul, List.take_add]
              rw [e1, e2]
              exact (ihq (by omega)).append t1
          have := key k (Nat.le_refl _)
          rw [List.take_of_length_le (by rw [hlen.2, hcl]; exact Nat.le_refl _)] at this
          exact this
        · cases h
      · cases h
    · cases h
end
end Go.Eng

/- The abstract start: tokens for what came in. -/
namespace Go.Eng
open Go.RowKit
def LT.ty : LT → Nat
  | .b => 0
  | .s => 1
  | .i .i64 => 2
  | .i _ => 3
def LT.tk (t : LT) (p : Nat) : Value := .chan (some (8 * p + t.ty))
theorem LT.tk_ty {t : LT} {v : Value} (p : Nat) (h : t.is v) : tokTy (8 * p + t.ty) v = true := by
  have e : (8 * p + t.ty) % 8 = t.ty := by have : t.ty < 8 := by cases t with
    | i k => cases k <;> decide
    | _ => decide
                                           omega
  unfold tokTy; rw [e]
  cases t with
  | b => obtain ⟨b, rfl⟩ := h; rfl
  | s => obtain ⟨b, rfl⟩ := h; rfl
  | i k => obtain ⟨b, rfl⟩ := h; cases k <;> rfl
theorem LT.is_one {t : LT} {v : Value} (h : t.is v) : v.oneCell' = true := by
  cases t with
  | b => obtain ⟨b, rfl⟩ := h; rfl
  | s => obtain ⟨b, rfl⟩ := h; rfl
  | i k => obtain ⟨b, rfl⟩ := h; rfl
/-- The abstract cells of what has these kinds, from token p on; sl: a slice's value. -/
def absCells (sl : Value) : Nat → List CT → List Value
  | _, [] => []
  | p, .l t :: r => t.tk p :: absCells sl (p + 1) r
  | p, .sl _ :: r => sl :: absCells sl (p + 1) r
def elemToks (ts : List LT) : Nat → Nat → List Value
  | _, 0 => []
  | p, n + 1 => (ts.mapIdx fun j t => t.tk (p + j)) ++ elemToks ts (p + ts.length) n
/-- The slice that came in: nil, or of n elements. -/
def absSl (es : Nat) : Option Nat → Value
  | none => .slice none 0 0
  | some n => .slice (some ⟨0, 0, none⟩) n es
def absMem (ts : List LT) : Option Nat → Mem
  | none => { h := T.leaf.set 0 (some (.cells [] 0 false)), gs := .leaf, nx := 1 }
  | some n => { h := T.leaf.set 0 (some (.cells (elemToks ts 1000 n) 0 false)), gs := .leaf, nx := 1 }
theorem length_elemToks (ts : List LT) : ∀ (n p : Nat), (elemToks ts p n).length = n * ts.length
  | 0, p => by simp [elemToks]
  | n + 1, p => by simp [elemToks, length_elemToks ts n, Nat.succ_mul]; omega
theorem elemToks_at (ts : List LT) : ∀ (n p q : Nat) (v : Value), (elemToks ts p n)[q]? = some v → ∃ i j t, i < n ∧ q = i * ts.length + j ∧ ts[j]? = some t ∧ v = t.tk (p + q)
  | 0, p, q, v, h => by simp [elemToks] at h
  | n + 1, p, q, v, h => by
    simp only [elemToks] at h
    rcases Nat.lt_or_ge q ts.length with hl | hl
    · rw [List.getElem?_append_left (by simpa using hl)] at h
      rw [List.getElem?_mapIdx, List.getElem?_eq_getElem hl] at h
      simp at h
      exact ⟨0, q, ts[q], by omega, by simp, List.getElem?_eq_getElem hl, h.symm⟩
    · rw [List.getElem?_append_right (by simpa using hl)] at h
      simp only [List.length_mapIdx] at h
      obtain ⟨i, j, t, h1, h2, h3, h4⟩ := elemToks_at ts n (p + ts.length) _ v h
      exact ⟨i + 1, j, t, by omega, by rw [Nat.succ_mul]; omega, h3, by rw [h4]; congr 1; omega⟩
/-- What the tokens stand for: below 1000 the cells that came in; from there on the slice's. -/
def sigma (cells elems : List Value) (k : Nat) : Value := if k / 8 < 1000 then cells.getD (k / 8) undef else elems.getD (k / 8 - 1000) undef
theorem LT.ty_lt (t : LT) : t.ty < 8 := by
  cases t with
  | i k => cases k <;> decide
  | _ => decide
theorem sigma_cell (cells elems : List Value) (p : Nat) (t : LT) (h : p < 1000) : sigma cells elems (8 * p + t.ty) = cells.getD p undef := by
  have := t.ty_lt
  unfold sigma
  rw [show (8 * p + t.ty) / 8 = p by omega, if_pos h]
theorem sigma_elem (cells elems : List Value) (q : Nat) (t : LT) : sigma cells elems (8 * (1000 + q) + t.ty) = elems.getD q undef := by
  have := t.ty_lt
  unfold sigma
  rw [show (8 * (1000 + q) + t.ty) / 8 = 1000 + q by omega, if_neg (by omega), show 1000 + q - 1000 = q by omega]
/-- The start, with the slice's elements in memory. -/
theorem init {w : World} {cells : List Value} {ts : List LT} {sv : Value} (h : (CT.sl ts).is w sv) (hts : 0 < ts.length) :
    ∃ (G : Ctx) (sh : Option Nat) (elems : List Value), R G (.to w.heap.size) (absMem ts sh) w ∧ G.sym = sigma cells elems ∧ VRel G (absSl ts.length sh) sv ∧
      (match sh with | none => sv = .slice none 0 0 | some n => ∃ a c, sv = .slice a n c ∧ ∀ i, i < n → ∀ (j : Nat) (t : LT), ts[j]? = some t → t.is (elems.getD (i * ts.length + j) undef)) := by
  have empty : ∀ (l : List Value) (hl : l = []) (elems : List Value), R { f := fun _ => none, sz := fun _ => 0, sym := sigma cells elems } (.to w.heap.size) { h := T.leaf.set 0 (some (.cells l 0 false)), gs := .leaf, nx := 1 } w := fun l hl elems => by
    have hget : ∀ k, (T.leaf.set 0 (some (AObj.cells l 0 false))).get k = if k = 0 then some (.cells l 0 false) else none := fun k => by rw [T.get_set, T.get_leaf]
    refine ⟨fun k b d hk => (by cases hk), fun k b d hk => (by cases hk), fun k j b d d' hk => (by cases hk), fun k cs g wr hk => ?_, fun k hk => ?_, fun k hk => hk⟩
    · have hk' : (T.leaf.set 0 (some (AObj.cells l 0 false))).get k = some (.cells cs g wr) := hk
      rw [hget] at hk'
      split at hk'
      · subst_vars; cases hk'; exact ⟨Nat.zero_le _, Nat.le_refl _⟩
      · cases hk'
    · have hk' : 1 ≤ k := hk
      exact ⟨by show (T.leaf.set 0 (some (AObj.cells l 0 false))).get k = none; rw [hget, if_neg (by omega)], T.get_leaf k⟩
  rcases h with rfl | ⟨a, n, c, rfl, hn, hmax, hc⟩
  · exact ⟨_, none, [], empty [] rfl [], rfl, .nilSlice, rfl⟩
  · rcases Nat.eq_zero_or_pos c with rfl | hpos
    · obtain rfl : n = 0 := by omega
      exact ⟨_, some 0, [], empty [] rfl [], rfl, .slice0 _ _ _, _, _, rfl, fun i hi => by omega⟩
    · -- the cells that may be read
      have hex : ∀ q, q < n * ts.length → ∃ u, w.cell? (a.add q) = some u ∧ ∃ i j t, i < n ∧ q = i * ts.length + j ∧ ts[j]? = some t ∧ t.is u := fun q hq => by
        have hi : q / ts.length < n := by rw [Nat.div_lt_iff_lt_mul hts]; exact hq
        have hj : q % ts.length < ts.length := Nat.mod_lt _ hts
        obtain ⟨u, h1, h2⟩ := hc (q / ts.length) (by omega) (q % ts.length) _ (List.getElem?_eq_getElem hj)
        have e : q / ts.length * ts.length + q % ts.length = q := by rw [Nat.mul_comm]; exact Nat.div_add_mod q ts.length
        rw [e] at h1
        exact ⟨u, h1, _, _, _, hi, e.symm, List.getElem?_eq_getElem hj, h2⟩
      have hlist : ∀ N, N ≤ n * ts.length → ∃ l : List Value, l.length = N ∧ ∀ q, q < N → w.cell? (a.add q) = some (l.getD q undef) := by
        intro N
        induction N with
        | zero => intro _; exact ⟨[], rfl, fun q hq => by omega⟩
        | succ N ih =>
          intro hN
          obtain ⟨l, h1, h2⟩ := ih (by omega)
          obtain ⟨u, h3, _⟩ := hex N (by omega)
          refine ⟨l ++ [u], by simp [h1], fun q hq => ?_⟩
          rcases Nat.lt_or_ge q N with hl | hl
          · rw [h2 q hl]
            simp [List.getD_eq_getElem?_getD, List.getElem?_append_left (show q < l.length by omega)]
          · obtain rfl : q = N := by omega
            rw [h3]
            simp [List.getD_eq_getElem?_getD, ← h1]
      obtain ⟨elems, hl1, hl2⟩ := hlist _ (Nat.le_refl _)
      obtain ⟨u0, h0, _⟩ := hc 0 hpos 0 _ (List.getElem?_eq_getElem hts)
      -- the block
      have hblk : a.spot = none ∧ ∃ c' t' fz, w.heap[a.block]? = some (.cells c' t' fz) ∧ ∀ q, w.cell? (a.add q) = c'[a.off + q]? := by
        have e0 : a.add (0 * ts.length + 0) = a := by unfold Addr.add; simp
        rw [e0] at h0
        unfold World.cell? at h0
        cases hx : w.heap[a.block]? with
        | none => rw [hx] at h0; cases h0
        | some o =>
          rw [hx] at h0
          cases o <;> first | (cases h0; done) | skip
          rename_i c' t' fz
          simp only at h0
          have hsp : a.spot = none := by cases hq : a.spot with
            | none => rfl
            | some s => rw [hq] at h0; simp at h0
          refine ⟨hsp, c', t', fz, rfl, fun q => ?_⟩
          have ea : a.add q = ⟨a.block, a.off + q, none⟩ := by
            have e1 : a = ⟨a.block, a.off, none⟩ := by cases a; simp at hsp ⊢; exact hsp
            conv => lhs; rw [e1]
            exact Addr.add_mid _ _ _
          rw [ea]
          unfold World.cell?
          simp only [hx]; rfl
      obtain ⟨hsp, c', t', fz, hb, hcell⟩ := hblk
      have hlen : a.off + c * ts.length ≤ c'.size := by
        obtain ⟨u, h1, _⟩ := hc (c - 1) (by omega) (ts.length - 1) _ (List.getElem?_eq_getElem (by omega))
        rw [hcell] at h1
        have := (Array.getElem?_eq_some_iff.1 h1).1
        have e : (c - 1) * ts.length + (ts.length - 1) + 1 = c * ts.length := by
          obtain ⟨c2, rfl⟩ : ∃ c2, c = c2 + 1 := ⟨c - 1, by omega⟩
          rw [Nat.succ_mul]; simp; omega
        omega
      refine ⟨{ f := fun k => if k = 0 then some (a.block, a.off) else none, sz := fun _ => c'.size, sym := sigma cells elems }, some n, elems, ?_, rfl, ?_, _, _, rfl, fun i hi j t hj => ?_⟩
      · have hget : ∀ k, (absMem ts (some n)).h.get k = if k = 0 then some (.cells (elemToks ts 1000 n) 0 false) else none := fun k => by
          show (T.leaf.set 0 (some (AObj.cells (elemToks ts 1000 n) 0 false))).get k = _
          rw [T.get_set, T.get_leaf]
        refine ⟨fun k b d hk => ?_, fun k b d hk => ?_, fun k j b d d' hk hj hne => ?_, fun k cs g wr hk => ?_, fun k hk => ?_, fun k hk => hk⟩
        · simp only at hk
          split at hk
          · cases hk; exact (Array.getElem?_eq_some_iff.1 hb).1
          · cases hk
        · simp only at hk
          split at hk
          · cases hk; subst_vars
            refine ⟨.cells (elemToks ts 1000 n) 0 false, by rw [hget, if_pos rfl], c', t', fz, hb, rfl, fun h => (by cases h), fun _ => ⟨?_, fun q v hq => ?_⟩⟩
            · rw [length_elemToks]
              have := Nat.mul_le_mul_right ts.length hn
              omega
            · obtain ⟨i, j, t, hi, hqe, hj, rfl⟩ := elemToks_at ts n 1000 q v hq
              have hqlt : q < n * ts.length := by
                have := (List.getElem?_eq_some_iff.1 hq).1
                rwa [length_elemToks] at this
              refine ⟨rfl, elems.getD q undef, ?_, ?_⟩
              · rw [← hcell]; exact hl2 q hqlt
              · obtain ⟨u, hu1, i', j', t2, hi', hq', hj', hu2⟩ := hex q hqlt
                rw [hl2 q hqlt] at hu1
                have hu := Option.some.inj hu1
                have hjl := (List.getElem?_eq_some_iff.1 hj).1
                have hjl' := (List.getElem?_eq_some_iff.1 hj').1
                have hjj : j = j' := by
                  have h1 : q % ts.length = j := by rw [hqe, Nat.mul_comm, Nat.mul_add_mod, Nat.mod_eq_of_lt hjl]
                  have h2 : q % ts.length = j' := by rw [hq', Nat.mul_comm, Nat.mul_add_mod, Nat.mod_eq_of_lt hjl']
                  omega
                subst hjj
                rw [hj] at hj'; cases hj'
                rw [hu]
                exact .tok _ _ (LT.tk_ty _ hu2) (by show sigma cells elems _ = _; rw [sigma_elem, hu])
          · cases hk
        · simp only at hk hj
          split at hk
          · split at hj
            · omega
            · cases hj
          · cases hk
        · rw [hget] at hk
          split at hk
          · subst_vars; cases hk; exact ⟨Nat.zero_le _, Nat.le_refl _⟩
          · cases hk
        · have hk' : 1 ≤ k := hk
          exact ⟨by rw [hget, if_neg (by omega)], T.get_leaf k⟩
      · have ea : a = ⟨a.block, a.off + 0, none⟩ := by
          cases a; simp at hsp ⊢; exact hsp
        conv => rhs; rw [ea]
        exact .slice (k := 0) (off := 0) (d := a.off) (b := a.block) (show (if (0 : Nat) = 0 then some (a.block, a.off) else none) = _ from if_pos rfl) hn (by simpa using hlen)
      · have hq : i * ts.length + j < n * ts.length := by
          have hjl := (List.getElem?_eq_some_iff.1 hj).1
          have := Nat.mul_le_mul_right ts.length (show i + 1 ≤ n by omega)
          rw [Nat.succ_mul] at this; omega
        obtain ⟨u, h1, h2⟩ := hc i (by omega) j t hj
        rw [hl2 _ hq] at h1
        rw [Option.some.inj h1]; exact h2
/-- The cells that came in, and their tokens. -/
theorem absCells_rel {w : World} {G : Ctx} {cells elems : List Value} (hG : G.sym = sigma cells elems) {sl : Value} : ∀ (cts : List CT) (p : Nat), p + cts.length ≤ 1000 → (∀ (j : Nat) (c : CT), cts[j]? = some c → ∃ v, cells[p + j]? = some v ∧ c.is w v) →
    (∀ (j : Nat) (ts : List LT), cts[j]? = some (.sl ts) → VRel G sl (cells.getD (p + j) undef)) → VL G (absCells sl p cts) ((cells.drop p).take cts.length)
  | [], p, _, _, _ => by simp only [absCells]; simp; exact .nil
  | c :: r, p, hp, h, hs => by
    obtain ⟨v, hv, hv2⟩ := h 0 c rfl
    have hv' : cells[p]? = some v := hv
    have hlt := (List.getElem?_eq_some_iff.1 hv').1
    have hge : cells[p] = v := (List.getElem?_eq_some_iff.1 hv').2
    have e : (cells.drop p).take (c :: r).length = v :: (cells.drop (p + 1)).take r.length := by
      rw [List.drop_eq_getElem_cons hlt, hge]; rfl
    rw [e]
    have ih := absCells_rel hG (sl := sl) r (p + 1) (by simp at hp; omega) (fun j d hj => by
      obtain ⟨u, h1, h2⟩ := h (j + 1) d (by simpa using hj)
      exact ⟨u, by rw [← h1]; congr 1; omega, h2⟩) (fun j ts hj => by
      have := hs (j + 1) ts (by simpa using hj)
      rwa [show p + (j + 1) = p + 1 + j by omega] at this)
    have hgd : cells.getD p undef = v := by simp [List.getD_eq_getElem?_getD, hv']
    cases c with
    | l t =>
      refine .cons (.tok _ v (LT.tk_ty p hv2) ?_) ih
      rw [hG, sigma_cell _ _ _ _ (by simp at hp; omega)]; exact hgd
    | sl ts =>
      refine .cons ?_ ih
      have := hs 0 ts rfl
      rw [← hgd]; exact this
end Go.Eng

/- Laws as closed runs. -/
namespace Go.Eng
open Go.RowKit
noncomputable def noext : FuncId → List Value → Mem → Option (Value × Mem) := fun _ _ _ => none
def isT (o : Option (Value × Mem)) : Bool := match o with | some (.bool true, _) => true | _ => false
theorem isT_eq {o : Option (Value × Mem)} (h : isT o = true) : ∃ m, o = some (.bool true, m) := by
  unfold isT at h; split at h
  · exact ⟨_, rfl⟩
  · cases h
section
variable {P : Program}
/-- A closed run, from whatever world. -/
theorem closed_run (hm : P.follows .mixedOrders = true) {lim n : Nat} {f : FuncId} {v : Value} {m : Mem} {ext : FuncId → List Value → Mem → Option (Value × Mem)} (he : ∀ f vs m v m', ext f vs m = some (v, m') → @AInv noSide P f vs m fun v1 m1 => v1 = v ∧ m1 = m')
    (h : (@exN noSide P ext lim n).call f [] emptyMem = some (v, m)) (hs : scal v = true) (w : World) : Calls P f #[] w fun e w' => e = .returned v ∧ Below w.heap.size w w' := by
  letI := noSide
  exact closed_calls ((exN_ok (lim := lim) he hm n).call f [] emptyMem v m h) (fun v1 m1 h1 G v' hv => by rw [h1.1] at hv; exact scal_eq hs hv) w
/-- A run of a law, its arguments tokens. -/
theorem law_calls {S : Side} {f : FuncId} {vs args' : List Value} {m m' : Mem} {u : Value} (hrun : @ACall S P f vs m fun v1 m1 => v1 = u ∧ m1 = m') (hu : scal u = true) {w : World} {G : Ctx} (hR : R G (.to w.heap.size) m w) (hφ : @Side.φ S G (.to w.heap.size) w) (hv : VL G vs args') :
    Calls P f args'.toArray w fun e w' => e = .returned u ∧ Below w.heap.size w w' :=
  (hrun G _ w args' hR hφ hv).mono fun e w' ⟨v', v, G', m1, he, ⟨h1, h2⟩, hf, hR', hv'⟩ => by
    subst h1
    have := scal_eq hu hv'
    subst this
    exact ⟨he, hf.below.below⟩
end
theorem R.nothing (σ : Nat → Value) (w : World) : R { f := fun _ => none, sz := fun _ => 0, sym := σ } (.to w.heap.size) emptyMem w := by
  refine ⟨fun _ _ _ h => ?_, fun _ _ _ h => ?_, fun _ _ _ _ _ h => ?_, fun k cs g wr h => ?_, fun k _ => ⟨T.get_leaf k, T.get_leaf k⟩, fun k hk => hk⟩
  · cases h
  · cases h
  · cases h
  · have : T.leaf.get k = some (AObj.cells cs g wr) := h
    rw [T.get_leaf] at this; cases this
/-- Where the slice stands among the cells that came in. -/
def onlyAt (cts : List CT) (q : Nat) : Bool := (List.range cts.length).all fun j => j == q || match cts[j]? with | some (.l _) => true | _ => false
theorem onlyAt_eq {cts : List CT} {q j : Nat} {ts : List LT} (h : onlyAt cts q = true) (hj : cts[j]? = some (.sl ts)) : j = q := by
  have hl := (List.getElem?_eq_some_iff.1 hj).1
  have := List.all_eq_true.1 h j (List.mem_range.2 hl)
  rw [hj] at this
  simpa using this
/-- What is known of the world in which the law began. -/
@[reducible] def mkSide (W : World) (pc : List (Value × Bool)) (pin : Nat → Option (Nat × Nat)) (sym : Nat → Option Value) : Side where
  pc := pc
  pin := pin
  sym := sym
  prot := fun k => k < W.heap.size
  ψ := fun w => Below W.heap.size W w
  keep := fun h k => ⟨h.os.trans k.os, h.tape.trans k.tape, h.output.trans k.output, Nat.le_trans k.size h.size, fun i hi => (h.block i hi).trans (k.block i hi)⟩
theorem mkSide_φ {W : World} {pc : List (Value × Bool)} {pin : Nat → Option (Nat × Nat)} {sym : Nat → Option Value} {G : Ctx} (h1 : ∀ k p, pin k = some p → G.f k = some p) (h2 : ∀ p ∈ pc, ∃ f, symEv G.sym f p.1 = some (.bool p.2)) (h3 : ∀ k v, sym k = some v → G.sym k = v) :
    @Side.φ (mkSide W pc pin sym) G (.to W.heap.size) W :=
  @Side.φ.mk (mkSide W pc pin sym) G (.to W.heap.size) W (Below.refl _ _) (fun k hk => hk) h1 h2 h3
/-- The slice that came in, met again. -/
theorem slice_again {G0 G' : Ctx} {n es c0 : Nat} {A0 : Option Addr} (h0 : VRel G0 (.slice (some ⟨0, 0, none⟩) n es) (.slice A0 n c0)) (hp : ∀ p, G0.f 0 = some p → G'.f 0 = some p) {v' : Value} (h : VRel G' (.slice (some ⟨0, 0, none⟩) n es) v') :
    ∃ A c, v' = .slice A n c ∧ n ≤ c ∧ (n = 0 ∨ A = A0) := by
  cases h with
  | slice h1 h2 h3 =>
    refine ⟨_, _, rfl, h2, ?_⟩
    cases h0 with
    | slice q1 q2 q3 =>
      rw [hp _ q1] at h1; cases h1
      exact .inr rfl
    | slice0 _ _ _ => exact .inl rfl
  | slice0 a a' es => exact ⟨_, _, rfl, Nat.le_refl _, .inl rfl⟩
end Go.Eng

/- A law whose arguments are plain data, at most one slice among them: its walk out of closed runs. -/
namespace Go.Eng
open Go.RowKit
def bin (op : BinOp) (u v : Value) : Value := .iface (opCode op) (.agg #[u, v])
def un (c : Nat) (u : Value) : Value := .iface c (.agg #[u])
def slTok (q : Nat) : Value := .chan (some (8 * q + 4))
/-! ### Tests are well typed -/
def hasTy (τ : Nat) (v : Value) : Prop :=
  match τ with
  | 0 => ∃ b, v = .bool b
  | 1 => ∃ s, v = .string s
  | 2 => ∃ n, v = .int .i64 n
  | 4 => ∃ a n c, v = .slice a n c
  | _ => False
def tyE (cts : List CT) : Nat → Value → Option Nat
  | 0, _ => none
  | f + 1, v =>
    match v with
    | .chan (some k) =>
      if k / 8 < 1000 then
        match cts[k / 8]? with
        | some (.l t) => if k % 8 = t.ty ∧ t.ty ≠ 3 then some t.ty else none
        | some (.sl _) => if k % 8 = 4 then some 4 else none
        | none => none
      else none
    | .iface c (.agg xs) =>
      match xs.toList with
      | [x] => match tyE cts f x with
        | some 0 => if c = 100 then some 0 else none
        | some 1 => if c = 101 then some 2 else none
        | some 4 => if c = 101 then some 2 else none
        | some 2 => if c = 102 ∨ c = 103 then some 2 else none
        | _ => none
      | [x, y] => match tyE cts f x, tyE cts f y, codeOp c with
        | some 2, some 2, some op => some (if cmpOp op then 0 else 2)
        | some 1, some 1, some op => if cmpOp op then some 0 else none
        | _, _, _ => none
      | _ => none
    | .int .i64 _ => some 2
    | .bool _ => some 0
    | .string _ => some 1
    | _ => none
theorem tyE_ok {W : World} {cts : List CT} {cells elems : List Value} (ht : Typed W cts cells) : ∀ (f : Nat) (e : Value) (τ : Nat), tyE cts f e = some τ → ∃ v, symEv (sigma cells elems) f e = some v ∧ hasTy τ v := by
  intro f
  induction f with
  | zero => intro e τ h; simp [tyE] at h
  | succ f ih =>
    intro e τ h
    simp only [tyE] at h
    split at h
    · rename_i k
      split at h
      · rename_i hk
        have hσ : ∀ v, cells[k / 8]? = some v → sigma cells elems k = v := fun v hv => by
          unfold sigma
          rw [if_pos hk]; simp [List.getD_eq_getElem?_getD, hv]
        split at h
        · rename_i t hc
          split at h
          · rename_i hty
            cases h
            obtain ⟨v, hv, his⟩ := ht.2 _ _ hc
            have e1 := hσ v hv
            have his' : t.is v := his
            have hk8 : k = 8 * (k / 8) + t.ty := by omega
            have htok : tokTy k v = true := by rw [hk8]; exact LT.tk_ty _ his'
            refine ⟨v, by simp only [symEv]; rw [e1, if_pos htok], ?_⟩
            cases t with
            | b => exact his'
            | s => exact his'
            | i kk => cases kk <;> first | exact his' | exact absurd rfl hty.2
          · cases h
        · rename_i ts hc
          split at h
          · rename_i h4
            cases h
            obtain ⟨v, hv, his⟩ := ht.2 _ _ hc
            have e1 := hσ v hv
            have hsl : ∃ a n c, v = .slice a n c := by
              rcases his with rfl | ⟨a, n, c, rfl, _⟩
              · exact ⟨_, _, _, rfl⟩
              · exact ⟨_, _, _, rfl⟩
            obtain ⟨a, n, c, rfl⟩ := hsl
            have htok : tokTy k (.slice a n c) = true := by unfold tokTy; rw [h4]; rfl
            exact ⟨_, by simp only [symEv]; rw [e1, if_pos htok], a, n, c, rfl⟩
          · cases h
        · cases h
      · cases h
    · rename_i c xs
      split at h
      · rename_i x hx
        split at h
        · rename_i hxt
          split at h
          · rename_i hc
            cases h; subst hc
            obtain ⟨v, h1, b, rfl⟩ := ih _ _ hxt
            exact ⟨.bool !b, by simp only [symEv, hx, h1]; rfl, _, rfl⟩
          · cases h
        · rename_i hxt
          split at h
          · rename_i hc
            cases h; subst hc
            obtain ⟨v, h1, b, rfl⟩ := ih _ _ hxt
            exact ⟨goInt b.size, by simp only [symEv, hx, h1]; rfl, _, rfl⟩
          · cases h
        · rename_i hxt
          split at h
          · rename_i hc
            cases h; subst hc
            obtain ⟨v, h1, a, n, cp, rfl⟩ := ih _ _ hxt
            exact ⟨goInt n, by simp only [symEv, hx, h1]; rfl, _, rfl⟩
          · cases h
        · rename_i hxt
          split at h
          · rename_i hc
            cases h
            obtain ⟨v, h1, n, rfl⟩ := ih _ _ hxt
            rcases hc with rfl | rfl
            · exact ⟨_, by simp only [symEv, hx, h1]; rfl, _, rfl⟩
            · exact ⟨_, by simp only [symEv, hx, h1]; rfl, _, rfl⟩
          · cases h
        · cases h
      · rename_i x y hx
        split at h
        · rename_i op hxt hyt hop
          cases h
          obtain ⟨v, h1, n, rfl⟩ := ih _ _ hxt
          obtain ⟨u, h2, n2, rfl⟩ := ih _ _ hyt
          obtain ⟨hc, _, _⟩ := codeOp_typ hop
          obtain ⟨r, hr, _, hty⟩ := aintV_code hc .i64 n n2
          refine ⟨r, by simp only [symEv, hx, h1, h2, hop, symBin]; exact hr, ?_⟩
          cases hcmp : cmpOp op with
          | true => rw [hcmp] at hty; exact hty
          | false => rw [hcmp] at hty; exact hty
        · rename_i op hxt hyt hop
          split at h
          · rename_i hcmp
            cases h
            obtain ⟨v, h1, n, rfl⟩ := ih _ _ hxt
            obtain ⟨u, h2, n2, rfl⟩ := ih _ _ hyt
            obtain ⟨b, hb⟩ := astrV_code hcmp n n2
            exact ⟨.bool b, by simp only [symEv, hx, h1, h2, hop, symBin]; rw [if_pos hcmp]; exact hb, b, rfl⟩
          · cases h
        · cases h
      · cases h
    · cases h; exact ⟨_, rfl, _, rfl⟩
    · cases h; exact ⟨_, rfl, _, rfl⟩
    · cases h; exact ⟨_, rfl, _, rfl⟩
    · cases h
/-! ### Arguments -/
/-- A parameter: does it come as an aggregate? its cells. -/
abbrev PK := Bool × List CT
def allC : List PK → List CT
  | [] => []
  | p :: r => p.2 ++ allC r
def absArgs (sl : Value) : Nat → List PK → List Value
  | _, [] => []
  | p, (true, c) :: r => .agg (absCells sl p c).toArray :: absArgs sl (p + c.length) r
  | p, (false, c) :: r => absCells sl p c ++ absArgs sl (p + c.length) r
inductive ArgsOk (W : World) : List PK → List Value → List Value → Prop
  | nil : ArgsOk W [] [] []
  | agg {c : List CT} {cs : Array Value} {r : List PK} {vs cells : List Value} (h : Typed W c cs.toList) (t : ArgsOk W r vs cells) : ArgsOk W ((true, c) :: r) (.agg cs :: vs) (cs.toList ++ cells)
  | one {c : CT} {v : Value} {r : List PK} {vs cells : List Value} (h : c.is W v) (t : ArgsOk W r vs cells) : ArgsOk W ((false, [c]) :: r) (v :: vs) (v :: cells)
theorem ArgsOk.typed {W : World} {ps : List PK} {vs cells : List Value} (h : ArgsOk W ps vs cells) : Typed W (allC ps) cells := by
  induction h with
  | nil => exact ⟨rfl, fun j c h => by simp [allC] at h⟩
  | agg h t ih => exact h.append ih
  | one h t ih => exact (Typed.one h).append ih
theorem absArgs_rel {W : World} {G : Ctx} {all elems : List Value} (hG : G.sym = sigma all elems) {sl : Value} {ps : List PK} {vs cells : List Value} (h : ArgsOk W ps vs cells) : ∀ (p : Nat), all.drop p = cells → p + (allC ps).length ≤ 1000 →
    (∀ (j : Nat) (ts : List LT), (allC ps)[j]? = some (.sl ts) → VRel G sl (all.getD (p + j) undef)) → VL G (absArgs sl p ps) vs := by
  induction h with
  | nil => intro p _ _ _; exact .nil
  | agg h t ih =>
    rename_i c cs r vs cells
    intro p hd hp hs
    have hlen : (allC ((true, c) :: r)).length = c.length + (allC r).length := by simp [allC]
    have hat : ∀ j, j < c.length → all[p + j]? = cs.toList[j]? := fun j hj => by
      have h1 : (all.drop p)[j]? = (cs.toList ++ cells)[j]? := by rw [hd]
      rw [List.getElem?_drop, List.getElem?_append_left (by rw [h.1]; exact hj)] at h1
      exact h1
    have h1 := absCells_rel (w := W) hG (sl := sl) c p (by omega) (fun j d hj => by
      obtain ⟨v, hv, hv2⟩ := h.2 j d hj
      exact ⟨v, by rw [hat j (List.getElem?_eq_some_iff.1 hj).1]; exact hv, hv2⟩) (fun j ts hj => hs j ts (by
        rw [show allC ((true, c) :: r) = c ++ allC r from rfl, List.getElem?_append_left (List.getElem?_eq_some_iff.1 hj).1]; exact hj))
    have e1 : (all.drop p).take c.length = cs.toList := by rw [hd, List.take_append_of_le_length (by rw [h.1]; exact Nat.le_refl _), List.take_of_length_le (by rw [h.1]; exact Nat.le_refl _)]
    rw [e1] at h1
    refine .cons (.agg _ _ (by have := h1.length; simp at this ⊢; omega) fun i x y hx hy => h1.get i x y (by simpa using hx) (by simpa using hy)) (ih (p + c.length) ?_ (by omega) fun j ts hj => ?_)
    · rw [← List.drop_drop, hd, List.drop_append_of_le_length (by rw [h.1]; exact Nat.le_refl _), List.drop_of_length_le (by rw [h.1]; exact Nat.le_refl _)]; rfl
    · have := hs (c.length + j) ts (by rw [show allC ((true, c) :: r) = c ++ allC r from rfl, List.getElem?_append_right (by omega)]; simpa using hj)
      rwa [show p + (c.length + j) = p + c.length + j by omega] at this
  | one h t ih =>
    rename_i c v r vs cells
    intro p hd hp hs
    have hlen : (allC ((false, [c]) :: r)).length = 1 + (allC r).length := by simp [allC]; omega
    have hat : all[p]? = some v := by
      have h1 : (all.drop p)[0]? = (v :: cells)[0]? := by rw [hd]
      rw [List.getElem?_drop] at h1
      simpa using h1
    have h1 := absCells_rel (w := W) hG (sl := sl) [c] p (by simp; omega) (fun j d hj => by
      cases j with
      | zero => simp at hj; subst hj; exact ⟨v, hat, h⟩
      | succ j => simp at hj) (fun j ts hj => hs j ts (by
        rw [show allC ((false, [c]) :: r) = [c] ++ allC r from rfl, List.getElem?_append_left (List.getElem?_eq_some_iff.1 hj).1]; exact hj))
    have e1 : (all.drop p).take [c].length = [v] := by rw [hd]; rfl
    rw [e1] at h1
    refine @VL.append noSide _ _ _ _ _ h1 (ih (p + 1) ?_ (by omega) fun j ts hj => ?_)
    · rw [← List.drop_drop, hd]; rfl
    · have := hs (1 + j) ts (by rw [show allC ((false, [c]) :: r) = [c] ++ allC r from rfl, List.getElem?_append_right (by simp)]; simpa using hj)
      rwa [show p + (1 + j) = p + 1 + j by omega] at this
/-! ### The law -/
section
variable {P : Program}
/-- A function without arguments whose answer is known. -/
def overK (kn : FuncId) : FuncId → List Value → Mem → Option (Value × Mem) := fun f vs m => if f = kn then (match vs with | [] => some (.bool true, m) | _ => none) else none
theorem overK_ok [Side] {kn : FuncId} (h : ∀ w, Calls P kn #[] w fun e w' => e = .returned (.bool true) ∧ Below w.heap.size w w') : ∀ f vs m v m', overK kn f vs m = some (v, m') → ACall P f vs m fun v1 m1 => v1 = v ∧ m1 = m' := by
  intro f vs m v m' hh
  unfold overK at hh
  split at hh
  · rename_i hf
    split at hh
    · cases hh; subst hf
      exact ACall.of_calls (fun G => .bool _) fun G B w args' hR hφ hv => by
        cases hv with
        | nil => exact h w
    · cases hh
  · cases hh
abbrev Ext0 := FuncId → List Value → Mem → Option (Value × Mem)
/-- Which way each test goes. -/
theorem tests_go {W : World} {cts : List CT} {cells elems : List Value} (ht : Typed W cts cells) {G : Ctx} (hG : G.sym = sigma cells elems) : ∀ (tests : List Value), (tests.all fun t => tyE cts 20 t == some 0) = true →
    ∃ pc : List (Value × Bool), pc.map (·.1) = tests ∧ ∀ p ∈ pc, ∃ f, symEv G.sym f p.1 = some (.bool p.2)
  | [], _ => ⟨[], rfl, fun p hp => by cases hp⟩
  | t :: r, h => by
    simp only [List.all_cons, Bool.and_eq_true, beq_iff_eq] at h
    obtain ⟨pc, h1, h2⟩ := tests_go ht hG r h.2
    obtain ⟨v, h3, b, rfl⟩ := tyE_ok (elems := elems) ht 20 t 0 h.1
    refine ⟨(t, b) :: pc, by simp [h1], fun p hp => ?_⟩
    rcases List.mem_cons.1 hp with rfl | hp
    · exact ⟨20, by rw [hG]; exact h3⟩
    · exact h2 p hp
/-- A law without slices. -/
theorem plain_walk (hm : P.follows .mixedOrders = true) {f : FuncId} {ps : List PK} {ext over : Ext0} (he : ∀ [Side], ∀ f vs m v m', ext f vs m = some (v, m') → AInv P f vs m fun v1 m1 => v1 = v ∧ m1 = m') (ho : ∀ [Side], ∀ f vs m v m', over f vs m = some (v, m') → ACall P f vs m fun v1 m1 => v1 = v ∧ m1 = m')
    {lim n : Nat} {tests : List Value} (htests : (tests.all fun t => tyE (allC ps) 20 t == some 0) = true) (hps : (allC ps).length ≤ 1000) (hno : (allC ps).all (fun c => match c with | .l _ => true | _ => false) = true)
    (hrun : ∀ (W : World) (pc : List (Value × Bool)), pc.map (·.1) = tests → isT ((@exM (mkSide W pc (fun _ => none) (fun _ => none)) P ext over lim n).call f (absArgs .nilIface 0 ps) emptyMem) = true)
    {W : World} {vs cells : List Value} (hargs : ArgsOk W ps vs cells) : Calls P f vs.toArray W fun e w' => e = .returned (.bool true) ∧ Below W.heap.size W w' := by
  obtain ⟨pc, h1, h2⟩ := tests_go (elems := []) hargs.typed (G := { f := fun _ => none, sz := fun _ => 0, sym := sigma cells [] }) rfl tests htests
  obtain ⟨m', hm'⟩ := isT_eq (hrun W pc h1)
  refine law_calls (S := mkSide W pc (fun _ => none) (fun _ => none)) (m' := m') (u := .bool true) ?_ rfl (R.nothing _ W) (mkSide_φ (fun _ _ h => by cases h) h2 (fun _ _ h => by cases h)) (absArgs_rel (all := cells) (sl := .nilIface) rfl hargs 0 rfl (by omega) fun j ts hj => ?_)
  · letI := mkSide W pc (fun _ => none) (fun _ => none)
    exact (exM_ok he ho hm n).call _ _ _ _ _ hm'
  · have := List.all_eq_true.1 hno _ (List.mem_of_getElem? hj)
    simp at this
/-- A law with one slice, of which no more than N elements are looked at. -/
theorem slice_walk (hm : P.follows .mixedOrders = true) {f : FuncId} {ps : List PK} {ext over : Ext0} (he : ∀ [Side], ∀ f vs m v m', ext f vs m = some (v, m') → AInv P f vs m fun v1 m1 => v1 = v ∧ m1 = m') (ho : ∀ [Side], ∀ f vs m v m', over f vs m = some (v, m') → ACall P f vs m fun v1 m1 => v1 = v ∧ m1 = m')
    {lim n : Nat} {tests : List Value} (htests : (tests.all fun t => tyE (allC ps) 20 t == some 0) = true) (hps : (allC ps).length ≤ 1000) {q N : Nat} {ts : List LT} (hq : (allC ps)[q]? = some (.sl ts)) (honly : onlyAt (allC ps) q = true) (hts : 0 < ts.length)
    (hrun : ∀ (W : World) (pc : List (Value × Bool)) (sh : Option Nat), pc.map (·.1) = tests → (∀ k, sh = some k → k ≤ N) → isT ((@exM (mkSide W pc (fun _ => none) (fun _ => none)) P ext over lim n).call f (absArgs (absSl ts.length sh) 0 ps) (absMem ts sh)) = true)
    (hbig : ∀ (W : World) (pc : List (Value × Bool)), pc.map (·.1) = tests → isT ((@exM (mkSide W ((bin .gtr (un 101 (slTok q)) (.int .i64 N), true) :: pc) (fun _ => none) (fun _ => none)) P ext over lim n).call f (absArgs (slTok q) 0 ps) emptyMem) = true)
    {W : World} {vs cells : List Value} (hargs : ArgsOk W ps vs cells) : Calls P f vs.toArray W fun e w' => e = .returned (.bool true) ∧ Below W.heap.size W w' := by
  obtain ⟨sv, hsv, hsl⟩ := hargs.typed.2 q _ hq
  have hqlt : q < 1000 := by have := (List.getElem?_eq_some_iff.1 hq).1; omega
  have hgd : cells.getD q undef = sv := by simp [List.getD_eq_getElem?_getD, hsv]
  have hrel : ∀ (G : Ctx) (elems : List Value) (sl : Value), G.sym = sigma cells elems → VRel G sl sv → VL G (absArgs sl 0 ps) vs := fun G elems sl hG hr =>
    absArgs_rel (all := cells) hG hargs 0 rfl (by omega) fun j ts' hj => by
      have := onlyAt_eq honly hj
      subst this
      rw [Nat.zero_add, hgd]; exact hr
  obtain ⟨G, sh, elems, hR, hG, hvr, hinfo⟩ := init (cells := cells) hsl hts
  by_cases hbound : ∀ k, sh = some k → k ≤ N
  · obtain ⟨pc, h1, h2⟩ := tests_go (elems := elems) hargs.typed hG tests htests
    obtain ⟨m', hm'⟩ := isT_eq (hrun W pc sh h1 hbound)
    refine law_calls (S := mkSide W pc (fun _ => none) (fun _ => none)) (m' := m') (u := .bool true) ?_ rfl hR (mkSide_φ (fun _ _ h => by cases h) h2 (fun _ _ h => by cases h)) (hrel G elems _ hG hvr)
    letI := mkSide W pc (fun _ => none) (fun _ => none)
    exact (exM_ok he ho hm n).call _ _ _ _ _ hm'
  · obtain ⟨k, hk⟩ := Classical.not_forall.1 hbound
    obtain ⟨rfl, hk2⟩ := Classical.not_imp.1 hk
    obtain ⟨a, c, rfl, _⟩ := hinfo
    obtain ⟨pc, h1, h2⟩ := tests_go (elems := []) hargs.typed (G := { f := fun _ => none, sz := fun _ => 0, sym := sigma cells [] }) rfl tests htests
    have hσ : sigma cells [] (8 * q + 4) = .slice a k c := by
      unfold sigma
      rw [show (8 * q + 4) / 8 = q by omega, if_pos hqlt, hgd]
    have htok : tokTy (8 * q + 4) (.slice a k c) = true := by
      unfold tokTy
      rw [show (8 * q + 4) % 8 = 4 by omega]; rfl
    obtain ⟨m', hm'⟩ := isT_eq (hbig W pc h1)
    refine law_calls (S := mkSide W ((bin .gtr (un 101 (slTok q)) (.int .i64 N), true) :: pc) (fun _ => none) (fun _ => none)) (m' := m') (u := .bool true) ?_ rfl (R.nothing (sigma cells []) W) (mkSide_φ (fun _ _ h => by cases h) (fun p hp => ?_) (fun _ _ h => by cases h)) (hrel _ [] (slTok q) rfl (.tok _ _ htok hσ))
    · letI := mkSide W ((bin .gtr (un 101 (slTok q)) (.int .i64 N), true) :: pc) (fun _ => none) (fun _ => none)
      exact (exM_ok he ho hm n).call _ _ _ _ _ hm'
    · rcases List.mem_cons.1 hp with rfl | hp
      · refine ⟨5, ?_⟩
        simp only [bin, un, slTok, symEv, hσ, htok, if_true, opCode, codeOp]
        have : (k : Int) > (N : Int) := by omega
        show some (Value.bool (decide ((k : Int) > (N : Int)))) = _
        rw [decide_eq_true this]
      · exact h2 p hp
end
end Go.Eng

/- Parameters that are single cells; functions of the library without a body. -/
namespace Go.Eng
open Go.RowKit Go.WideShapes Go.ChangeShapes
section
variable {H : Type} {enc : TypeId × Value → H} {P : Program} {w : World}
theorem okWide_arr {r : Go.Reach} {base n : Nat} {t e : TypeId} {v : Value} (ht : P.underlying t = some (.array n e)) (h : Value.okWide P w r base t v) : ∃ cs, v = .agg cs ∧ cs.size = P.cellsOf t := by
  simp only [Value.okWide, ht] at h
  obtain ⟨cs, h1, h2, _⟩ := h
  exact ⟨cs, h1, h2⟩
theorem int_typed {r : Go.Reach} {b0 : Nat} {t : TypeId} {k : IntKind} {v : Value} {d : DataW H} {ps : List MemPlace} (ht : P.underlying t = some (.int k)) (hval : Value.okWide P w r b0 t v) (hd : DataW.Trod enc P w 0 (fun _ => true) true t v d ps) : (CT.l (.i k)).is w v := by
  obtain ⟨n, rfl, _⟩ := open_int ht hval hd
  exact ⟨n, rfl⟩
theorem bool_typed {r : Go.Reach} {b0 : Nat} {t : TypeId} {v : Value} {d : DataW H} {ps : List MemPlace} (ht : P.underlying t = some .bool) (hval : Value.okWide P w r b0 t v) (hd : DataW.Trod enc P w 0 (fun _ => true) true t v d ps) : (CT.l .b).is w v := by
  obtain ⟨n, rfl, _⟩ := open_bool ht hval hd
  exact ⟨n, rfl⟩
end
/-! ### The order of two strings -/
def extCmp (fc : FuncId) : Ext0 := fun f vs m => if f = fc then (match vs with | [.string a, .string b] => some (goInt (Extern.BytealgCompare.cmp a b), m) | _ => none) else none
theorem extCmp_ok {P : Program} [Side] {fc : FuncId} {fn : Func} (hf : P.funcs[fc]? = some fn) (hn : (fn.name == "runtime.NumGoroutine") = false) (hb : fn.body.isNone = true) (hx : (Extern.findNext fn).isNone = true) (he : Extern.find fn = some Extern.BytealgCompare.compare) :
    ∀ f vs m v m', extCmp fc f vs m = some (v, m') → AInv P f vs m fun v1 m1 => v1 = v ∧ m1 = m' := by
  intro f vs m v m' h
  unfold extCmp at h
  split at h
  · rename_i hfc
    subst hfc
    split at h
    · rename_i a b
      cases h
      intro G B w args' r o a' next Q hR hφ hv hnext
      have hargs : args' = [.string a, .string b] := by
        cases hv with
        | cons h1 h2 =>
          cases h2 with
          | cons h3 h4 =>
            cases h4
            cases h1; cases h3; rfl
      subst hargs
      have hx' : Extern.findNext fn = none := by simpa using hx
      have hrun : (callFunc f [Value.string a, .string b].toArray).run P w = .ok (.value (goInt (Extern.BytealgCompare.cmp a b))) w := by
        simp only [callFunc, Sem.run_bind, run_program, Result.andThen_ok, hf, hn, hb, Bool.false_eq_true, if_false, if_true, run_mark, hx', he]
        rfl
      rw [hrun]
      exact hnext _ _ G _ w ⟨rfl, rfl⟩ (From.refl ..) hR (.int _ _)
    · cases h
  · cases h
end Go.Eng

/- 'slices.overlaps': of two rows in two blocks. -/
namespace Go.Eng
open Go.RowKit
def extOv (fc : FuncId) : Ext0 := fun f vs m => if f = fc then (match vs with
  | [.slice (some ⟨k, _, none⟩) _ _, .slice (some ⟨j, _, none⟩) _ _] => match m.h.get k, m.h.get j with
    | some (.cells ck gk true), some (.cells (c :: cj) gj true) => if gk ≠ gj ∧ m.ok gj ≤ j then some (.bool false, m) else none
    | _, _ => none
  | _ => none) else none
theorem run_overlaps_none {P : Program} (w : World) (tS tR e : TypeId) (ht : P.underlying tS = some (.slice e)) (size : Nat) (hz : ∀ w, (Go.sizeOf e).run P w = .ok size w)
    (a b : Addr) (la ca lb cb : Nat) (h0 : la = 0 ∨ lb = 0) :
    (Extern.SlicesOverlaps.overlaps #[tS, tS] #[tR] #[.slice (some a) la ca, .slice (some b) lb cb]).run P w = .ok (.bool false) w := by
  have h1 : la = 0 ∨ lb = 0 ∨ size = 0 := by rcases h0 with h | h <;> simp [h]
  change Sem.run P (α := Value) (do
    let some t := (#[tS, tS] : Array TypeId)[0]? | stuck "slices.overlaps: no parameter types"
    let .slice elem ← underlying t | stuck "slices.overlaps: slice type expected"
    let size ← sizeOf elem
    match (some a : Option Addr), (some b : Option Addr) with
    | some a, some b =>
      if la = 0 ∨ lb = 0 ∨ size = 0 then pure (Value.bool false)
      else if a.block != b.block && (← frozen a) && (← frozen b) then unsupported .addressObserved
      else do
        if a.block != b.block then do
          noView a; noView b
          if ← mayBeOne a b then return Value.bool ((← choose (.extern "sameAddr.stringBytes" 2)) == 1)
        pure (Value.bool (a.block == b.block && a.off < b.off + lb * size && b.off < a.off + la * size))
    | _, _ => pure (Value.bool false)) w = _
  simp [run_underlying ht, hz, h1]
theorem extOv_ok {P : Program} [Side] {fc : FuncId} {fn : Func} {tS tR e : TypeId} {size : Nat} (hf : P.funcs[fc]? = some fn) (hn : (fn.name == "runtime.NumGoroutine") = false) (hb : fn.body.isNone = true) (hx : (Extern.findNext fn).isNone = true) (he : Extern.find fn = some (Extern.SlicesOverlaps.overlaps #[tS, tS] #[tR]))
    (ht : P.underlying tS = some (.slice e)) (hz : ∀ w, (Go.sizeOf e).run P w = .ok size w) :
    ∀ f vs m v m', extOv fc f vs m = some (v, m') → AInv P f vs m fun v1 m1 => v1 = v ∧ m1 = m' := by
  intro f vs m v m' h
  unfold extOv at h
  split at h
  · rename_i hfc
    subst hfc
    split at h
    · rename_i k ka n es j ja n' es'
      split at h
      · rename_i ck gk c cj gj hk hj
        split at h
        · rename_i hg
          cases h
          intro G B w args' r o a' next Q hR hφ hv hnext
          have key : ∀ (a b : Addr) (la ca lb cb : Nat), (la = 0 ∨ lb = 0 ∨ (∃ d, G.f k = some (a.block, d)) ∧ ∃ d, G.f j = some (b.block, d)) →
              (Extern.SlicesOverlaps.overlaps #[tS, tS] #[tR] #[.slice (some a) la ca, .slice (some b) lb cb]).run P w = .ok (.bool false) w := by
            intro a b la ca lb cb h0
            rcases h0 with h0 | h0 | ⟨⟨d, h1⟩, d', h2⟩
            · exact run_overlaps_none w tS tR e ht size hz a b la ca lb cb (.inl h0)
            · exact run_overlaps_none w tS tR e ht size hz a b la ca lb cb (.inr h0)
            · have hkj : k ≠ j := by
                intro e1; subst e1; rw [hk] at hj; cases hj; exact hg.1 rfl
              have hne : a.block ≠ b.block := by
                intro e1
                rw [e1] at h1
                obtain ⟨ck', wk, cj', wj, g, h3, h4⟩ := hR.alias k j _ d d' h1 h2 hkj
                rw [hk] at h3; rw [hj] at h4
                cases h3; cases h4; exact hg.1 rfl
              obtain ⟨o1, h3, h5⟩ := hR.obj _ _ _ h1
              obtain ⟨o2, h4, h6⟩ := hR.obj _ _ _ h2
              rw [hk] at h3; rw [hj] at h4
              cases h3; cases h4
              obtain ⟨c1, t1, z1, w1, s1, b1, l1⟩ := h5
              obtain ⟨c2, t2, z2, w2, s2, b2, l2⟩ := h6
              have e1 := (b1 rfl).2
              have e2 := (b2 rfl).2
              subst e1; subst e2
              have hlen := (l2 hg.2).1
              exact Lib.run_overlaps_apart w tS tR e ht size hz a b la ca lb cb hne t1 t2 c1.size c2.size (by simp [World.shape?, w1]) (by simp [World.shape?, w2]) (by simp at hlen; omega) (by simp [World.frozen?, w1]) (by simp [World.frozen?, w1])
          have hargs : ∃ (a b : Addr) (la ca lb cb : Nat), args' = [.slice (some a) la ca, .slice (some b) lb cb] ∧ (la = 0 ∨ lb = 0 ∨ (∃ d, G.f k = some (a.block, d)) ∧ ∃ d, G.f j = some (b.block, d)) := by
            cases hv with
            | cons h1 h2 =>
              cases h2 with
              | cons h3 h4 =>
                cases h4
                cases h1 with
                | slice0 => cases h3 <;> exact ⟨_, _, _, _, _, _, rfl, .inl rfl⟩
                | slice h1 _ _ =>
                  cases h3 with
                  | slice0 => exact ⟨_, _, _, _, _, _, rfl, .inr (.inl rfl)⟩
                  | slice h3 _ _ => exact ⟨_, _, _, _, _, _, rfl, .inr (.inr ⟨⟨_, h1⟩, _, h3⟩)⟩
          obtain ⟨a, b, la, ca, lb, cb, rfl, h0⟩ := hargs
          have hx' : Extern.findNext fn = none := by simpa using hx
          have hrun : (callFunc f [Value.slice (some a) la ca, .slice (some b) lb cb].toArray).run P w = .ok (.value (.bool false)) w := by
            rw [run_callFunc_extern hf hn hb hx' he, key a b la ca lb cb h0]; rfl
          rw [hrun]
          exact hnext _ _ G _ w ⟨rfl, rfl⟩ (From.refl ..) hR (.bool _)
        · cases h
      · cases h
    · cases h
  · cases h
def extOr (x y : Ext0) : Ext0 := fun f vs m => match x f vs m with | some r => some r | none => y f vs m
theorem extOr_ok {P : Program} [Side] {x y : Ext0} (hx : ∀ f vs m v m', x f vs m = some (v, m') → AInv P f vs m fun v1 m1 => v1 = v ∧ m1 = m') (hy : ∀ f vs m v m', y f vs m = some (v, m') → AInv P f vs m fun v1 m1 => v1 = v ∧ m1 = m') :
    ∀ f vs m v m', extOr x y f vs m = some (v, m') → AInv P f vs m fun v1 m1 => v1 = v ∧ m1 = m' := by
  intro f vs m v m' h
  unfold extOr at h
  split at h
  · rename_i r hr
    cases h
    exact hx _ _ _ _ _ hr
  · exact hy _ _ _ _ _ h
/-- Both, of a program. -/
def ext2 (fc fo : FuncId) : Ext0 := extOr (extCmp fc) (extOv fo)
structure Ext2 (P : Program) (fc fo : FuncId) (tS tR e : TypeId) (size : Nat) : Prop where
  cmp : ∃ fn, P.funcs[fc]? = some fn ∧ (fn.name == "runtime.NumGoroutine") = false ∧ fn.body.isNone = true ∧ (Extern.findNext fn).isNone = true ∧ Extern.find fn = some Extern.BytealgCompare.compare
  ov : ∃ fn, P.funcs[fo]? = some fn ∧ (fn.name == "runtime.NumGoroutine") = false ∧ fn.body.isNone = true ∧ (Extern.findNext fn).isNone = true ∧ Extern.find fn = some (Extern.SlicesOverlaps.overlaps #[tS, tS] #[tR])
  ty : P.underlying tS = some (.slice e)
  size : ∀ w, (Go.sizeOf e).run P w = .ok size w
theorem Ext2.ok {P : Program} {fc fo : FuncId} {tS tR e : TypeId} {size : Nat} (h : Ext2 P fc fo tS tR e size) [Side] : ∀ f vs m v m', ext2 fc fo f vs m = some (v, m') → AInv P f vs m fun v1 m1 => v1 = v ∧ m1 = m' := by
  obtain ⟨f1, a1, a2, a3, a4, a5⟩ := h.cmp
  obtain ⟨f2, b1, b2, b3, b4, b5⟩ := h.ov
  exact extOr_ok (extCmp_ok a1 a2 a3 a4 a5) (extOv_ok b1 b2 b3 b4 b5 h.ty h.size)
theorem closed_run2 {P : Program} {fc fo : FuncId} {tS tR e : TypeId} {size : Nat} (x : Ext2 P fc fo tS tR e size) (hm : P.follows .mixedOrders = true) {f : FuncId} {lim n : Nat} {u : Value} {m' : Mem}
    (h : (@exN noSide P (ext2 fc fo) lim n).call f [] emptyMem = some (u, m')) (hu : scal u = true) (w : World) : Calls P f #[] w fun e w' => e = .returned u ∧ Below w.heap.size w w' :=
  closed_run hm (@Ext2.ok _ _ _ _ _ _ _ x noSide) h hu w
theorem plain_walk2 {P : Program} {fc fo : FuncId} {tS tR e : TypeId} {size : Nat} (x : Ext2 P fc fo tS tR e size) (hm : P.follows .mixedOrders = true) {f kn : FuncId} {ps : List PK} (hk : ∀ w, Calls P kn #[] w fun e w' => e = .returned (.bool true) ∧ Below w.heap.size w w')
    {lim n : Nat} {tests : List Value} (htests : (tests.all fun t => tyE (allC ps) 20 t == some 0) = true) (hps : (allC ps).length ≤ 1000) (hno : (allC ps).all (fun c => match c with | .l _ => true | _ => false) = true)
    (hrun : ∀ (W : World) (pc : List (Value × Bool)), pc.map (·.1) = tests → isT ((@exM (mkSide W pc (fun _ => none) (fun _ => none)) P (ext2 fc fo) (overK kn) lim n).call f (absArgs .nilIface 0 ps) emptyMem) = true)
    {W : World} {vs cells : List Value} (hargs : ArgsOk W ps vs cells) : Calls P f vs.toArray W fun e w' => e = .returned (.bool true) ∧ Below W.heap.size W w' :=
  plain_walk hm x.ok (overK_ok hk) htests hps hno hrun hargs
end Go.Eng
