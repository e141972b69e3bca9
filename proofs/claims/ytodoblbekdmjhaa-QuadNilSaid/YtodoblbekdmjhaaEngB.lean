/- All operations that change memory. -/
import Derived.Test.YtodoblbekdmjhaaEngA
set_option linter.unusedVariables false
set_option linter.unusedSimpArgs false
set_option linter.unusedSectionVars false
namespace Go.Eng
open Go.RowKit

def single (x : Option (Value × Mem)) : Option (List (Value × Mem)) := x.map fun p => [p]
def unit (x : Option Mem) : Option (List (Value × Mem)) := x.map fun m => [(undef, m)]
def aheavyB (P : Program) (m : Mem) (b : Builtin) (ts : Array TypeId) (args : List Value) : Option (List (Value × Mem)) :=
  match b, args with
  | .append, [s, x] => single (aappend P m ts s x)
  | .copy, [d, x] => single (acopy P m ts d x)
  | .delete, [x, k] => unit (adelete P m ts x k)
  | .clear, [x] => unit (aclear P m ts x)
  | _, _ => none
def aheavy (P : Program) (m : Mem) (a : AAct) (op : Go.Op) : Option (List (Value × Mem)) :=
  match op with
  | .alloc e => match azero P e with
    | some z => single (abox m z)
    | none => none
  | .box _ x => match a.ev x with
    | some v => single (abox m v)
    | none => none
  | .buildSlice t n parts => match a.parts parts.toList with
    | some ps => single (abuildSlice P m t n ps)
    | none => none
  | .makeMap _ none => some [amakeMap m]
  | .makeSlice t l c => match a.ev l, a.ev c with
    | some u, some v => single (amakeSlice P m t u v)
    | _, _ => none
  | .store t x v => match a.ev x, a.ev v with
    | some u, some z => unit (astore P m t u z)
    | _, _ => none
  | .mapUpdate t x k v | .insert t x k v => match a.ev x, a.ev k, a.ev v with
    | some x, some k, some v => unit (amapUpdate P m t x k v)
    | _, _, _ => none
  | .range t x => match a.ev x with
    | some u => single (arange P m t u)
    | none => none
  | .next x s => match a.ev x with
    | some u => anext m u s
    | none => none
  | .call c => match c.callee with
    | .builtin b => match a.evs c.args.toList with
      | some vs => aheavyB P m b c.argTypes vs
      | none => none
    | _ => none
  | _ => none

theorem single_run {G : Ctx} {B : Prot} {w : World} {x : Option (Value × Mem)} {outs : List (Value × Mem)} {res : Result Next} (h : single x = some outs) (hd : ∀ v m', x = some (v, m') → Done G B w m' v res) : Dones G B w outs res := by
  obtain ⟨⟨v, m'⟩, h1, rfl⟩ := Option.map_eq_some_iff.1 h
  exact (hd v m' h1).dones
theorem unit_run {G : Ctx} {B : Prot} {w : World} {x : Option Mem} {outs : List (Value × Mem)} {res : Result Next} (h : unit x = some outs) (hd : ∀ m', x = some m' → Done G B w m' undef res) : Dones G B w outs res := by
  obtain ⟨m', h1, rfl⟩ := Option.map_eq_some_iff.1 h
  exact (hd m' h1).dones
theorem VL.two {G : Ctx} {a b : Value} {l : List Value} (h : VL G [a, b] l) : ∃ a' b', l = [a', b'] ∧ VRel G a a' ∧ VRel G b b' := by
  cases h with
  | cons h1 t => cases t with
    | cons h2 t => cases t; exact ⟨_, _, rfl, h1, h2⟩
theorem VL.one' {G : Ctx} {a : Value} {l : List Value} (h : VL G [a] l) : ∃ a', l = [a'] ∧ VRel G a a' := by
  cases h with
  | cons h1 t => cases t; exact ⟨_, rfl, h1⟩
theorem aheavyB_run {G : Ctx} {B : Prot} {m : Mem} {w : World} (hR : R G B m w) {P : Program} {b : Builtin} {ts : Array TypeId} {args args' : List Value} {outs : List (Value × Mem)} (h : aheavyB P m b ts args = some outs) (ha : VL G args args') (ty : TypeId) (cs : Array Bool) :
    Dones G B w outs ((builtin b ts ty cs args'.toArray).run P w) := by
  unfold aheavyB at h
  split at h
  · obtain ⟨a', b', rfl, h1, h2⟩ := ha.two
    exact single_run h fun v m' hh => aappend_run (ty := ty) hR hh h1 h2
  · obtain ⟨a', b', rfl, h1, h2⟩ := ha.two
    exact single_run h fun v m' hh => acopy_run (ty := ty) hR hh h1 h2
  · obtain ⟨a', b', rfl, h1, h2⟩ := ha.two
    exact unit_run h fun m' hh => adelete_run (ty := ty) hR hh h1 h2
  · obtain ⟨a', rfl, h1⟩ := ha.one'
    exact unit_run h fun m' hh => aclear_run (ty := ty) hR hh h1
  · cases h
theorem aheavy_run {G : Ctx} {B : Prot} {m : Mem} {w : World} (hR : R G B m w) {P : Program} {a : AAct} {a' : Act} (hA : ARel G a a'.tmps) {o : Oper} {outs : List (Value × Mem)} (h : aheavy P m a o.op = some outs) :
    Dones G B w outs ((execOp a'.eval o).run P w) := by
  obtain ⟨dst, op, type, pos, after, guard⟩ := o
  dsimp only at h
  unfold aheavy at h
  split at h
  · rename_i e
    split at h
    · rename_i z hz
      obtain ⟨h1, h2⟩ := azero_run hz w G
      refine single_run h fun v m' hh => ?_
      have := abox_run (P := P) (t := e) hR hh h2
      simpa [execOp, Instr.alloc, h1] using this
    · cases h
  · rename_i e x
    split at h
    · rename_i v hx
      refine single_run h fun v m' hh => ?_
      have := abox_run (P := P) (t := e) hR hh (hA.ev hx)
      simpa [execOp, Instr.box] using this
    · cases h
  · rename_i t n parts
    split at h
    · rename_i ps hps
      refine single_run h fun v m' hh => ?_
      have := abuildSlice_run hR hh (hA.parts hps)
      have e : (List.map (fun (x : Nat × Operand) => match x with | (i, x) => (i, a'.eval x)) parts.toList).toArray = parts.map fun (i, x) => (i, a'.eval x) := by
        rw [← Array.toList_map]
      rw [e] at this
      exact this
    · cases h
  · cases h
    exact (amakeMap_run hR).dones
  · split at h
    · rename_i u z hl hc
      exact single_run h fun v m' hh => amakeSlice_run hR hh (hA.ev hl) (hA.ev hc)
    · cases h
  · split at h
    · rename_i u z hx hv
      exact unit_run h fun m' hh => astore_run hR hh (hA.ev hx) (hA.ev hv)
    · cases h
  · split at h
    · rename_i u k v hx hk hv
      exact unit_run h fun m' hh => amapUpdate_run hR hh (hA.ev hx) (hA.ev hk) (hA.ev hv)
    · cases h
  · split at h
    · rename_i u k v hx hk hv
      exact unit_run h fun m' hh => amapUpdate_run hR hh (hA.ev hx) (hA.ev hk) (hA.ev hv)
    · cases h
  · split at h
    · rename_i t x u hx
      exact single_run h fun v m' hh => arange_run hR hh (hA.ev hx)
    · cases h
  · split at h
    · rename_i x s u hx
      exact anext_run hR h (hA.ev hx)
    · cases h
  · rename_i c
    split at h
    · rename_i b hb
      split at h
      · rename_i vs hvs
        have e := hA.evs hvs
        have h1 := aheavyB_run hR h e type (c.args.map fun | .const _ => true | _ => false)
        have hargs : (c.args.toList.map a'.eval).toArray = c.args.map a'.eval := by rw [← Array.toList_map]
        rw [hargs] at h1
        simp only [execOp, resolve, hb]
        exact h1
      · cases h
    · cases h
  · cases h
end Go.Eng

/- The abstract semantics: what a region, a code, a call comes to; the rules. -/
namespace Go.Eng
open Go.RowKit

def Wd (r : Option Nat) : Fence := { Fence.wide with round := r }
inductive DRel (G : Ctx) : List Nat → List Deferred → Prop
  | nil : DRel G [] []
  | cons {k b : Nat} {l : List Nat} {ds : List Deferred} (h : G.f k = some (b, 0)) (t : DRel G l ds) : DRel G (k :: l) ({ target := .collected b, args := #[] } :: ds)
theorem DRel.mono {G G' : Ctx} (e : Ext G G') {l : List Nat} {ds : List Deferred} (h : DRel G l ds) : DRel G' l ds := by
  induction h with
  | nil => exact .nil
  | cons h t ih => exact .cons (e.f _ _ h) ih
/-- From a world on: related still, nothing below B turned. -/
structure From (G : Ctx) (B : Prot) (w : World) (G' : Ctx) (w' : World) : Prop where
  grow : Grow G w G'
  below : Keep B w w'
theorem From.ext {G : Ctx} {B : Prot} {w : World} {G' : Ctx} {w' : World} (h : From G B w G' w') : Ext G G' := h.grow.toExt
theorem From.refl (G : Ctx) (B : Prot) (w : World) : From G B w G w := ⟨Grow.refl G w, Keep.refl B w⟩
theorem From.trans {G G1 G2 : Ctx} {B : Prot} {w w1 w2 : World} (h : From G B w G1 w1) (k : From G1 B w1 G2 w2) : From G B w G2 w2 := ⟨Grow.trans h.below.size h.grow k.grow, h.below.trans k.below⟩
theorem From.drew (G : Ctx) (B : Prot) (w : World) : From G B w G w.drew := ⟨Grow.refl G w, (Keep.refl B w).drew⟩
/-- What is known besides: where some abstract blocks lie; a fact on the world that hangs on protected blocks alone. -/
class Side extends Sym where
  pin : Nat → Option (Nat × Nat)
  sym : Nat → Option Value
  prot : Nat → Prop
  ψ : World → Prop
  keep : ∀ {w w'}, Keep ⟨prot⟩ w w' → ψ w → ψ w'
@[reducible] def noSide : Side := { pc := [], pin := fun _ => none, sym := fun _ => none, prot := fun _ => False, ψ := fun _ => True, keep := fun _ _ => trivial }
structure Side.φ [S : Side] (G : Ctx) (B : Prot) (w : World) : Prop where
  fact : S.ψ w
  prot : ∀ k, S.prot k → B.p k
  pin : ∀ k p, S.pin k = some p → G.f k = some p
  pc : PCok G
  sym : ∀ k v, S.sym k = some v → G.sym k = v
theorem Side.stab [S : Side] {G : Ctx} {B : Prot} {w : World} {G' : Ctx} {w' : World} (h : From G B w G' w') (k : Side.φ G B w) : Side.φ G' B w' :=
  ⟨S.keep ⟨h.below.os, h.below.tape, h.below.output, h.below.size, fun i hi => h.below.block i (k.prot i hi)⟩ k.fact, k.prot, fun i p hp => h.ext.f _ _ (k.pin i p hp), k.pc.mono h.ext, fun i v hv => by rw [h.ext.sym]; exact k.sym i v hv⟩
theorem noSide_φ (G : Ctx) (B : Prot) (w : World) : @Side.φ noSide G B w :=
  @Side.φ.mk noSide G B w trivial (fun _ h => False.elim h) (fun _ _ h => nomatch h) (fun _ h => nomatch h) (fun _ _ h => nomatch h)
variable [Side]
/-- A state of an activation: abstract, real. -/
structure St (G : Ctx) (B : Prot) (a : AAct) (m : Mem) (a' : Act) (w : World) : Prop where
  mem : R G B m w
  act : ARel G a a'.tmps
  dfr : DRel G a.d a'.defers
  side : Side.φ G B w
def dstOk (a : AAct) (d : Option Tmp) : Bool := match d with | some t => decide (t < a.n) | none => true
theorem St.put {G : Ctx} {B : Prot} {a : AAct} {m m' : Mem} {a' : Act} {w : World} (h : St G B a m a' w) {G' : Ctx} {w' : World} (f : From G B w G' w') (hR : R G' B m' w') {v v' : Value} (hv : VRel G' v v') {d : Option Tmp} (hd : dstOk a d = true) :
    St G' B (a.put d v) m' (a'.put d v') w' :=
  ⟨hR, (h.act.mono f.ext).put hv d (fun t ht => by subst ht; simpa [dstOk] using hd), by
    have := h.dfr.mono f.ext
    cases d <;> exact this, Side.stab f h.side⟩

def ayield (ops : Array Oper) (a : AAct) (j : Nat) : Option Bool :=
  match (ops[j]?).bind (·.dst) with
  | some t => if t < a.n then (match a.look t with | .bool b => some b | _ => none) else none
  | none => none
def atok (ops : Array Oper) (a : AAct) (j : Nat) : Bool :=
  match (ops[j]?).bind (·.dst) with
  | some t => isSym (a.look t)
  | none => false
theorem yielded_of {G : Ctx} {a : AAct} {t' : Array Value} (h : ARel G a t') (ops : Array Oper) (j : Nat) : (∀ b, ayield ops a j = some b → yielded ops t' j = some b) ∧ (atok ops a j = false → yielded ops t' j = ayield ops a j) := by
  unfold yielded ayield atok
  cases hd : (ops[j]?).bind (·.dst) with
  | none => exact ⟨fun b h => h, fun _ => rfl⟩
  | some t =>
    simp only [Option.bind_some]
    by_cases ht : t < a.n
    · rw [if_pos ht]
      have hlt : t < t'.size := by rw [h.size]; exact ht
      have := h.rel t
      rw [Array.getElem?_eq_getElem hlt]
      have e : t'.getD t undef = t'[t] := by simp [Array.getD_eq_getD_getElem?, hlt]
      rw [e] at this
      generalize t'[t] = v' at this
      generalize a.look t = v at this
      cases this <;> first | exact ⟨fun b h => h, fun _ => rfl⟩ | exact ⟨fun b h => (by cases h), fun h => (by cases h)⟩
    · have hge : t'.size ≤ t := by rw [h.size]; exact Nat.le_of_not_lt ht
      rw [if_neg ht, Array.getElem?_eq_none hge]
      exact ⟨fun b h => h, fun _ => rfl⟩
def awanted (ops : Array Oper) (a : AAct) (o : Oper) : Bool := Region.wanted o (ayield ops a)
def askip (ops : Array Oper) (a : AAct) (o : Oper) : Bool := !awanted ops a o && match o.guard with | none => true | some (j, _) => !atok ops a j
theorem wanted_of {G : Ctx} {a : AAct} {t' : Array Value} (h : ARel G a t') {ops : Array Oper} {o : Oper} (hw : awanted ops a o = true) : Region.wanted o (yielded ops t') = true := by
  unfold awanted Region.wanted at hw
  unfold Region.wanted
  cases hg : o.guard with
  | none => rfl
  | some g =>
    rw [hg] at hw
    simp only [beq_iff_eq] at hw ⊢
    exact (yielded_of h ops g.1).1 _ hw
theorem skip_of {G : Ctx} {a : AAct} {t' : Array Value} (h : ARel G a t') {ops : Array Oper} {o : Oper} (hw : askip ops a o = true) : Region.wanted o (yielded ops t') = false := by
  unfold askip awanted Region.wanted at hw
  unfold Region.wanted
  cases hg : o.guard with
  | none => rw [hg] at hw; cases hw
  | some g =>
    rw [hg] at hw
    simp only [Bool.and_eq_true, Bool.not_eq_true'] at hw ⊢
    rw [(yielded_of h ops g.1).2 hw.2]; exact hw.1

/-! ### 1. Operations one behind the other -/
def AOps (P : Program) (ops : Array Oper) (l : List Nat) (a : AAct) (m : Mem) (S : AAct → Mem → Prop) : Prop :=
  ∀ (G : Ctx) (B : Prot) (w : World) (a' : Act) (r : Option Nat) (Q : Exit → Act → World → Prop), St G B a m a' w →
    (∀ aa mm a1 w1 G', S aa mm → From G B w G' w1 → St G' B aa mm a1 w1 → Q .normal a1 w1) → wpOpsIn (Wd r) 0 P ops Q l a' w
section
variable {P : Program} {ops : Array Oper} {i : Nat} {l : List Nat} {a : AAct} {m : Mem} {S : AAct → Mem → Prop} {o : Oper}
theorem AOps.nil (h : S a m) : AOps P ops [] a m S := fun G B w a' r Q hs hq => hq _ _ _ _ G h (From.refl ..) hs
theorem AOps.none (ho : ops[i]? = none) (h : AOps P ops l a m S) : AOps P ops (i :: l) a m S := fun G B w a' r Q hs hq => by
  simp only [wpOpsIn, ho]; exact h G B w a' r Q hs hq
theorem AOps.skip (ho : ops[i]? = some o) (hw : askip ops a o = true) (hd : dstOk a o.dst = true) (h : AOps P ops l (a.put o.dst undef) m S) : AOps P ops (i :: l) a m S := fun G B w a' r Q hs hq => by
  simp only [wpOpsIn, ho]
  have hw' : Region.wanted o (yielded ops a'.tmps) = false := skip_of hs.act hw
  rw [if_neg (by simp [hw'])]
  exact ⟨fun _ _ => trivial, h G B w _ r Q (hs.put (From.refl ..) hs.mem (VRel.undef G) hd) hq⟩
theorem AOps.step (ho : ops[i]? = some o) (hw : awanted ops a o = true) (hnd : ∀ c, o.op ≠ .defer c)
    (h : ∀ (G : Ctx) (B : Prot) (w : World) (a' : Act) (r : Option Nat) (Q : Exit → Act → World → Prop), St G B a m a' w → (∀ aa mm a1 w1 G', S aa mm → From G B w G' w1 → St G' B aa mm a1 w1 → Q .normal a1 w1) →
      o.uponIn (Wd r) 0 P a' (wpOpsIn (Wd r) 0 P ops Q l) Q ((execOp a'.eval o).run P w)) : AOps P ops (i :: l) a m S := fun G B w a' r Q hs hq => by
  simp only [wpOpsIn, ho]
  have hw' : Region.wanted o (yielded ops a'.tmps) = true := wanted_of hs.act hw
  rw [if_pos hw']
  refine ⟨fun _ _ => trivial, ?_⟩
  rw [Oper.semAt_eq _ _ _ hnd]
  exact h G B w a' r Q hs hq
theorem AOps.light {v : Value} (ho : ops[i]? = some o) (hw : awanted ops a o = true) (hnd : ∀ c, o.op ≠ .defer c) (hv : alight P m a o.op = some v) (hd : dstOk a o.dst = true) (h : AOps P ops l (a.put o.dst v) m S) : AOps P ops (i :: l) a m S :=
  AOps.step ho hw hnd fun G B w a' r Q hs hq => by
    obtain ⟨v', h1, h2⟩ := alight_run hs.side.pc hs.mem hs.act hv
    rw [h1]
    exact h G B w _ r Q (hs.put (From.refl ..) hs.mem h2 hd) hq
theorem AOps.heavy {outs : List (Value × Mem)} (ho : ops[i]? = some o) (hw : awanted ops a o = true) (hnd : ∀ c, o.op ≠ .defer c) (hv : aheavy P m a o.op = some outs) (hd : dstOk a o.dst = true)
    (h : ∀ p ∈ outs, AOps P ops l (a.put o.dst p.1) p.2 S) : AOps P ops (i :: l) a m S :=
  AOps.step ho hw hnd fun G B w a' r Q hs hq => by
    obtain ⟨p, hp, G', v', w', res, h1, h2, h3, h4, h5, h6⟩ := aheavy_run hs.mem hs.act hv
    rw [h1]
    have f : From G B w G' w' := ⟨h3, h6⟩
    have hst := hs.put f h4 h5 hd
    have := h p hp G' B w' _ r Q hst (fun aa mm a1 w1 G2 hS hf => hq aa mm a1 w1 G2 hS (f.trans hf))
    rcases h2 with rfl | ⟨rfl, rfl⟩
    · exact this
    · exact this
/-- A function, called by its number with these values: what it hands back, in which memory. -/
def ACall (P : Program) (f : FuncId) (vs : List Value) (m : Mem) (T : Value → Mem → Prop) : Prop :=
  ∀ (G : Ctx) (B : Prot) (w : World) (args' : List Value), R G B m w → Side.φ G B w → VL G vs args' →
    Calls P f args'.toArray w fun e w' => ∃ v' v G' m', e = .returned v' ∧ T v m' ∧ From G B w G' w' ∧ R G' B m' w' ∧ VRel G' v v'
/-- .. its body may be no Go text. -/
def AInv (P : Program) (f : FuncId) (vs : List Value) (m : Mem) (T : Value → Mem → Prop) : Prop :=
  ∀ (G : Ctx) (B : Prot) (w : World) (args' : List Value) (r : Option Nat) (o : Oper) (a' : Act) (next : Act → World → Prop) (Q : Exit → Act → World → Prop), R G B m w → Side.φ G B w → VL G vs args' →
    (∀ v' v G' m' w', T v m' → From G B w G' w' → R G' B m' w' → VRel G' v v' → next (a'.put o.dst v') w') → o.uponIn (Wd r) 0 P a' next Q ((callFunc f args'.toArray).run P w)
def callable (P : Program) (f : FuncId) : Bool := match P.funcs[f]? with | some fn => !(fn.name == "runtime.NumGoroutine") && fn.body.isSome | none => false
theorem callFunc_enter {P : Program} {f : FuncId} (h : callable P f = true) (args : Array Value) (w : World) : (callFunc f args).run P w = .ok (.enter f args) w := by
  unfold callable at h
  cases hf : P.funcs[f]? with
  | none => simp [hf] at h
  | some fn =>
    rw [hf] at h
    simp only [Bool.and_eq_true, Bool.not_eq_true'] at h
    obtain ⟨h1, h2⟩ := h
    obtain ⟨c, hc⟩ := Option.isSome_iff_exists.1 h2
    simp only [callFunc, Sem.run_bind, run_program, Result.andThen_ok, hf, h1, Bool.false_eq_true, if_false, hc, Option.isNone_some, Sem.run_pure]
theorem AInv.of_call {f : FuncId} {vs : List Value} {T : Value → Mem → Prop} (hc : callable P f = true) (h : ACall P f vs m T) : AInv P f vs m T := fun G B w args' r o a' next Q hR hφ hv hn => by
  rw [callFunc_enter hc]
  refine ⟨fun hx => (by simp [Wd, Fence.wide] at hx), ?_⟩
  have h1 := callsIn_wide (n := 0 - 1).2 (h G B w args' hR hφ hv)
  refine CallsIn.mono (F := Wd r) (show CallsIn (Wd r) (0 - 1) P f args'.toArray w _ from h1) ?_
  rintro e w' ⟨v', v, G', m', rfl, hT, hf, hR', hv'⟩
  exact hn v' v G' m' w' hT hf hR' hv'
theorem AOps.call {c : Call} {fo : Operand} {f : FuncId} {caps : Array Value} {vs : List Value} {T : Value → Mem → Prop} (ho : ops[i]? = some o) (hop : o.op = .call c) (hw : awanted ops a o = true) (hcal : c.callee = .value fo) (hf : a.ev fo = some (.func (.func f) #[] caps)) (hvs : a.evs c.args.toList = some vs) (hd : dstOk a o.dst = true)
    (hT : AInv P f (vs ++ caps.toList) m T) (h : ∀ v m', T v m' → AOps P ops l (a.put o.dst v) m' S) : AOps P ops (i :: l) a m S :=
  AOps.step ho hw (fun c' hc' => by rw [hop] at hc'; cases hc') fun G B w a' r Q hs hq => by
    have e1 := hs.act.ev hf
    have e2 := hs.act.evs hvs
    generalize hfo : a'.eval fo = fv at e1
    cases e1 with
    | func _ _ caps' hsz hcv =>
      have hrun : (execOp a'.eval o).run P w = (callFunc f (c.args.toList.map a'.eval ++ caps'.toList).toArray).run P w := by
        have : (c.args.toList.map a'.eval ++ caps'.toList).toArray = c.args.map a'.eval ++ caps' := by
          apply Array.ext'; simp
        rw [this]
        simp only [execOp, hop, resolve, hcal, hfo, Deferred.ofValue, Sem.run_bind, Sem.run_pure, Result.andThen_ok, invoke]
        simp
      rw [hrun]
      have hvl : VL G (vs ++ caps.toList) (c.args.toList.map a'.eval ++ caps'.toList) := by
        have hcl : VL G caps.toList caps'.toList := by
          have key : ∀ (l l' : List Value), l'.length = l.length → (∀ (i : Nat) (x y : Value), l[i]? = some x → l'[i]? = some y → VRel G x y) → VL G l l' := by
            intro l
            induction l with
            | nil => intro l' hl _; obtain rfl : l' = [] := List.eq_nil_of_length_eq_zero (by simpa using hl); exact .nil
            | cons x l ih =>
              intro l' hl hv
              cases l' with
              | nil => simp at hl
              | cons y l' => exact .cons (hv 0 x y rfl rfl) (ih l' (by simpa using hl) fun i a b ha hb => hv (i + 1) a b (by simpa using ha) (by simpa using hb))
          exact key _ _ (by simp [hsz]) fun i x y hx hy => hcv i x y (by simpa using hx) (by simpa using hy)
        have app : ∀ {a b c d : List Value}, VL G a b → VL G c d → VL G (a ++ c) (b ++ d) := fun h1 h2 => by
          induction h1 with
          | nil => exact h2
          | cons h t ih => exact .cons h ih
        exact app e2 hcl
      refine hT G B w _ r o a' _ Q hs.mem hs.side hvl ?_
      intro v' v G' m' w' hTv hf' hR' hv'
      exact h v m' hTv G' B w' _ r Q (hs.put hf' hR' hv' hd) (fun aa mm a1 w1 G2 hS hf2 => hq aa mm a1 w1 G2 hS (hf'.trans hf2))
/-- A round of the loop l. -/
def ARound (P : Program) (l : Nat) (vs : List Value) (m : Mem) (T : Value → Mem → Prop) : Prop :=
  ∀ (G : Ctx) (B : Prot) (w : World) (b : Nat) (args' : List Value), R G B m w → Side.φ G B w → G.f l = some (b, 0) → VL G vs args' →
    ∃ fn tmps assign body, (Instr.yield b args'.toArray).run P w = .ok (.round b fn tmps assign body) w ∧
      RoundIn Fence.wide 0 P b fn tmps assign body w fun e w' => ∃ v' v G' m', e = .returned v' ∧ T v m' ∧ From G B w G' w' ∧ R G' B m' w' ∧ VRel G' v v'
theorem AOps.yield {c : Call} {fo : Operand} {k : Nat} {vs : List Value} {T : Value → Mem → Prop} (ho : ops[i]? = some o) (hop : o.op = .call c) (hw : awanted ops a o = true) (hcal : c.callee = .value fo) (hf : a.ev fo = some (.func (.yield k) #[] #[])) (hvs : a.evs c.args.toList = some vs) (hd : dstOk a o.dst = true)
    (hT : ARound P k vs m T) (h : ∀ v m', T v m' → AOps P ops l (a.put o.dst v) m' S) : AOps P ops (i :: l) a m S :=
  AOps.step ho hw (fun c' hc' => by rw [hop] at hc'; cases hc') fun G B w a' r Q hs hq => by
    have e1 := hs.act.ev hf
    have e2 := hs.act.evs hvs
    generalize hfo : a'.eval fo = fv at e1
    cases e1 with
    | yield hk =>
      rename_i b
      obtain ⟨fn, tmps, assign, body, hy, hround⟩ := hT G B w b _ hs.mem hs.side hk e2
      have hrun : (execOp a'.eval o).run P w = .ok (.round b fn tmps assign body) w := by
        have : (c.args.toList.map a'.eval).toArray = c.args.map a'.eval := by rw [← Array.toList_map]
        rw [this] at hy
        simp only [execOp, hop, resolve, hcal, hfo, Deferred.ofValue, Sem.run_bind, Sem.run_pure, Result.andThen_ok, invoke]
        simpa using hy
      rw [hrun]
      refine ⟨fun hx => (by simp [Wd, Fence.wide] at hx), ?_⟩
      refine RoundIn.mono (F := Wd r) (show RoundIn (Wd r) (0 - 1) P b fn tmps assign body w _ from hround) ?_
      rintro e w' ⟨v', v, G', m', rfl, hTv, hf', hR', hv'⟩
      exact h v m' hTv G' B w' _ r Q (hs.put hf' hR' hv' hd) (fun aa mm a1 w1 G2 hS hf2 => hq aa mm a1 w1 G2 hS (hf'.trans hf2))
end
end Go.Eng

/- The abstract semantics of code: the rules. -/
namespace Go.Eng
open Go.RowKit
variable [Side]

def RR (G : Ctx) : Option Nat → Option Nat → Prop
  | none, none => True
  | some k, some b => G.f k = some (b, 0)
  | _, _ => False
theorem RR.mono {G G' : Ctx} (e : Ext G G') {p r : Option Nat} (h : RR G p r) : RR G' p r := by
  cases p <;> cases r <;> simp only [RR] at h ⊢
  exact e.f _ _ h
def ACode (P : Program) (p : Option Nat) (c : Code) (a : AAct) (m : Mem) (S : Exit → AAct → Mem → Prop) : Prop :=
  ∀ (G : Ctx) (B : Prot) (w : World) (a' : Act) (r : Option Nat) (Q : Exit → Act → World → Prop), St G B a m a' w → RR G p r →
    (∀ e aa mm a1 w1 G', S e aa mm → From G B w G' w1 → St G' B aa mm a1 w1 → Q e a1 w1) → c.wpIn (Wd r) 0 P Q a' w
section
variable {P : Program} {p : Option Nat} {a : AAct} {m : Mem} {S : Exit → AAct → Mem → Prop}
theorem ACode.mono {c : Code} {S' : Exit → AAct → Mem → Prop} (h : ACode P p c a m S) (hs : ∀ e a m, S e a m → S' e a m) : ACode P p c a m S' :=
  fun G B w a' r Q hst hr hq => h G B w a' r Q hst hr fun e aa mm a1 w1 G' hS => hq e aa mm a1 w1 G' (hs _ _ _ hS)
theorem ACode.skip (h : S .normal a m) : ACode P p .skip a m S := fun G B w a' r Q hst _ hq => wpIn_skip (hq _ _ _ _ _ G h (From.refl ..) hst)
theorem ACode.ret (h : S .ret a m) : ACode P p .ret a m S := fun G B w a' r Q hst _ hq => wpIn_ret (hq _ _ _ _ _ G h (From.refl ..) hst)
theorem ACode.exit {id : Nat} (h : S (.exit id) a m) : ACode P p (.exit id) a m S := fun G B w a' r Q hst _ hq => wpIn_exit (hq _ _ _ _ _ G h (From.refl ..) hst)
theorem ACode.goto {t : Nat} (h : S (.goto t) a m) : ACode P p (.goto t) a m S := fun G B w a' r Q hst _ hq => wpIn_goto (hq _ _ _ _ _ G h (From.refl ..) hst)
/-- What stands behind: normal ends go on. -/
def andThen (S1 : AAct → Mem → Prop) (S : Exit → AAct → Mem → Prop) : Exit → AAct → Mem → Prop
  | .normal, a, m => S1 a m
  | e, a, m => S e a m
theorem ACode.seq {x y : Code} (h : ACode P p x a m (andThen (fun a1 m1 => ACode P p y a1 m1 S) S)) : ACode P p (.seq x y) a m S := fun G B w a' r Q hst hr hq => by
  refine wpIn_seq (h G B w a' r _ hst hr ?_)
  intro e aa mm a1 w1 G' hS hf hst'
  cases e with
  | normal => exact hS G' B w1 a1 r Q hst' (hr.mono hf.ext) fun e aa mm a2 w2 G2 hS2 hf2 => hq e aa mm a2 w2 G2 hS2 (hf.trans hf2)
  | exit id => exact hq _ aa mm a1 w1 G' hS hf hst'
  | goto t => exact hq _ aa mm a1 w1 G' hS hf hst'
  | ret => exact hq _ aa mm a1 w1 G' hS hf hst'
  | panic ch => exact hq _ aa mm a1 w1 G' hS hf hst'
  | outgrown => exact hq _ aa mm a1 w1 G' hS hf hst'
theorem ACode.cond {c : Operand} {x y : Code} {t : Bool} (hc : a.ev c = some (.bool t)) (h : ACode P p (if t then x else y) a m S) : ACode P p (.cond c x y) a m S := fun G B w a' r Q hst hr hq => by
  have e := hst.act.ev hc
  have hv : a'.eval c = .bool t := by generalize a'.eval c = v at e; cases e; rfl
  exact wpIn_cond hv (h G B w a' r Q hst hr hq)
def inBlock (id : Nat) (S : Exit → AAct → Mem → Prop) : Exit → AAct → Mem → Prop
  | .exit id', a, m => if id' = id then S .normal a m else S (.exit id') a m
  | e, a, m => S e a m
theorem ACode.block {id : Nat} {c : Code} (h : ACode P p c a m (inBlock id S)) : ACode P p (.block id c) a m S := fun G B w a' r Q hst hr hq => by
  refine wpIn_block (h G B w a' r _ hst hr ?_)
  intro e aa mm a1 w1 G' hS hf hst'
  cases e with
  | exit id' =>
    simp only [inBlock] at hS
    simp only [Exit.inBlock]
    split at hS <;> rename_i hid
    · rw [if_pos hid]; exact hq _ aa mm a1 w1 G' hS hf hst'
    · rw [if_neg hid]; exact hq _ aa mm a1 w1 G' hS hf hst'
  | normal => exact hq _ aa mm a1 w1 G' hS hf hst'
  | goto t => exact hq _ aa mm a1 w1 G' hS hf hst'
  | ret => exact hq _ aa mm a1 w1 G' hS hf hst'
  | panic ch => exact hq _ aa mm a1 w1 G' hS hf hst'
  | outgrown => exact hq _ aa mm a1 w1 G' hS hf hst'
/-- A loop that ends within k rounds. -/
def ALoop (P : Program) (p : Option Nat) (c : Code) (S : Exit → AAct → Mem → Prop) : Nat → AAct → Mem → Prop
  | 0, _, _ => False
  | k + 1, a, m => ACode P p c a m (andThen (ALoop P p c S k) S)
theorem ACode.loop {c : Code} (k : Nat) (h : ALoop P p c S k a m) : ACode P p (.loop c) a m S := fun G B w a' r Q hst hr hq => by
  refine wpIn_loop_rounds k ?_
  induction k generalizing G w a' a m with
  | zero => exact h.elim
  | succ k ih =>
    refine h G B w a' r _ hst hr ?_
    intro e aa mm a1 w1 G' hS hf hst'
    cases e with
    | normal => exact ih hS G' w1 a1 hst' (hr.mono hf.ext) fun e aa mm a2 w2 G2 hS2 hf2 => hq e aa mm a2 w2 G2 hS2 (hf.trans hf2)
    | exit id => exact hq _ aa mm a1 w1 G' hS hf hst'
    | goto t => exact hq _ aa mm a1 w1 G' hS hf hst'
    | ret => exact hq _ aa mm a1 w1 G' hS hf hst'
    | panic ch => exact hq _ aa mm a1 w1 G' hS hf hst'
    | outgrown => exact hq _ aa mm a1 w1 G' hS hf hst'
theorem ACode.region {id : Nat} {ops : Array Oper} (h : AOps P ops (List.range ops.size) a m (S .normal)) : ACode P p (.region id ops false) a m S := fun G B w a' r Q hst hr hq =>
  wpIn_region (h G B w a' r Q hst fun aa mm a1 w1 G' hS hf hst' => hq _ aa mm a1 w1 G' hS hf hst')
theorem St.drew {G : Ctx} {B : Prot} {a : AAct} {a' : Act} {w : World} (h : St G B a m a' w) : St G B a m a' w.drew := ⟨h.mem.drew, h.act, h.dfr, Side.stab (From.drew G B w) h.side⟩
theorem ACode.draws {id : Nat} {ops : Array Oper} (h : ∀ t, AOps P ops (Region.schedule (P.follows .mixedOrders) ops t) a m (S .normal)) : ACode P p (.region id ops true) a m S := fun G B w a' r Q hst hr hq =>
  wpIn_region_draw fun t => h t G B w.drew a' r Q hst.drew fun aa mm a1 w1 G' hS hf hst' => hq _ aa mm a1 w1 G' hS ((From.drew G B w).trans hf) hst'

/-! ### Ranges over functions -/
def jumpOf : Exit → Option (Option Code)
  | .normal => some none
  | .ret => some (some .ret)
  | .exit id => some (some (.exit id))
  | .goto t => some (some (.goto t))
  | _ => none
def setAll (t : T Value) : List Tmp → List Value → T Value
  | d :: ds, v :: vs => setAll (t.set d (some v)) ds vs
  | _, _ => t
theorem R.loop {G : Ctx} {B : Prot} {m : Mem} {w : World} (h : R G B m w) {k b : Nat} {st : LoopState} {pend : Option Code} {t : T Value} {n dfr : Nat} {ps : List Tmp} {assign body : Code} (hk : G.f k = some (b, 0)) (ho : m.h.get k = some (.loop st pend t n ps assign body dfr)) :
    B.free b ∧ ∃ l', w.heap[b]? = some (.loop l') ∧ l'.state = st ∧ l'.pending = pend ∧ l'.params = ps.toArray ∧ l'.assign = assign ∧ l'.body = body ∧
      l'.tmps.size = n ∧ (∀ i, VRel G ((t.get i).getD undef) (l'.tmps.getD i undef)) ∧ G.f dfr = some (l'.defers, 0) := by
  obtain ⟨o, ho', r⟩ := h.obj k b 0 hk
  rw [ho] at ho'; cases ho'
  exact ⟨r.2.1, r.2.2⟩
theorem R.loopSet {G : Ctx} {B : Prot} {m : Mem} {w : World} (h : R G B m w) {k b : Nat} {st : LoopState} {pend : Option Code} {t : T Value} {n dfr : Nat} {ps : List Tmp} {assign body : Code} (hk : G.f k = some (b, 0)) (ho : m.h.get k = some (.loop st pend t n ps assign body dfr)) {l' : Loop} (hl : w.heap[b]? = some (.loop l'))
    (st' : LoopState) (pend' : Option Code) :
    R G B (m.setObj k (.loop st' pend' t n ps assign body dfr)) (w.putObj b (.loop { l' with state := st', pending := pend' })) ∧ From G B w G (w.putObj b (.loop { l' with state := st', pending := pend' })) := by
  obtain ⟨hB, l2, h1, a1, a2, a3, a4, a5, a6, a7, a8⟩ := h.loop hk ho
  rw [hl] at h1; cases h1
  refine ⟨h.setObj hk ho rfl rfl ⟨rfl, hB, _, heap_setObj (h.dom k b 0 hk) _, rfl, rfl, a3, a4, a5, a6, a7, a8⟩, ⟨Grow.refl G w, keep_setObj hB _⟩⟩
theorem setAll_rel {G : Ctx} : ∀ (ds : List Tmp) {vs vs' : List Value}, VL G vs vs' → ∀ (t : T Value) (t' : Array Value), (∀ d ∈ ds, d < t'.size) → (∀ i, VRel G ((t.get i).getD undef) (t'.getD i undef)) →
    ((ds.zip vs').foldl (fun t (p : Tmp × Value) => t.setIfInBounds p.1 p.2) t').size = t'.size ∧ ∀ i, VRel G (((setAll t ds vs).get i).getD undef) (((ds.zip vs').foldl (fun t (p : Tmp × Value) => t.setIfInBounds p.1 p.2) t').getD i undef) := by
  intro ds
  induction ds with
  | nil => intro vs vs' hv t t' _ h; exact ⟨rfl, h⟩
  | cons d ds ih =>
    intro vs vs' hv t t' hd h
    cases hv with
    | nil => exact ⟨rfl, h⟩
    | cons hv1 hv2 =>
      rename_i v v' l l'
      simp only [List.zip_cons_cons, List.foldl_cons, setAll]
      have hdl : d < t'.size := hd d (by simp)
      have := ih hv2 (t.set d (some v)) (t'.setIfInBounds d v') (fun x hx => by simp; exact hd x (by simp [hx])) fun i => by
        rw [T.get_set]
        by_cases hi : i = d
        · subst hi
          simp [Array.getD_eq_getD_getElem?, hdl]; exact hv1
        · rw [if_neg hi]
          have := h i
          simpa [Array.getD_eq_getD_getElem?, Array.getElem?_setIfInBounds_ne (Ne.symm hi)] using this
      exact ⟨by rw [this.1]; simp, this.2⟩
theorem ARound.mk {l : Nat} {vs : List Value} {T : Value → Mem → Prop} {pend : Option Code} {t : Eng.T Value} {n dfr : Nat} {ps : List Tmp} {assign body : Code} (hl : m.h.get l = some (.loop .ready pend t n ps assign body dfr)) (hlen : vs.length = ps.length) (hps : ps.all fun d => decide (d < n))
    (h : ACode P (some l) assign { t := setAll t ps vs, n := n, d := [] } m (andThen (fun a1 m1 => ∃ pend t n ps assign' body' dfr, m1.h.get l = some (.loop .ready pend t n ps assign' body' dfr) ∧
        ACode P (some l) body a1 (m1.setObj l (.loop .busy pend t n ps assign' body' dfr)) fun e a2 m2 => ∃ j, jumpOf e = some j ∧ ∃ st pend t n ps assign' body' dfr, m2.h.get l = some (.loop st pend t n ps assign' body' dfr) ∧
          T (.bool j.isNone) (m2.setObj l (.loop (if j.isNone then .ready else .done) j t n ps assign' body' dfr))) fun _ _ _ => False)) : ARound P l vs m T := by
  intro G B w b args' hR hφ hb hv
  obtain ⟨hB, l', h1, a1, a2, a3, a4, a5, a6, a7, a8⟩ := hR.loop hb hl
  have hsz : args'.toArray.size = l'.params.size := by rw [a3]; simp [hv.length, hlen]
  refine ⟨l'.fn, _, l'.assign, l'.body, run_yield h1 hsz, ?_⟩
  rw [a4, a5]
  have hrel := setAll_rel ps hv t l'.tmps (fun d hd => by rw [a6]; exact of_decide_eq_true (List.all_eq_true.1 hps d hd)) a7
  have hfold : (l'.params.zip args'.toArray).foldl (fun tmps (x : Tmp × Value) => match x with | (t, a) => tmps.setIfInBounds t a) l'.tmps = (ps.zip args').foldl (fun t (p : Tmp × Value) => t.setIfInBounds p.1 p.2) l'.tmps := by
    rw [a3, ← Array.foldl_toList]
    simp only [Array.toList_zip]
  rw [hfold]
  refine roundIn_of_wpIn trivial ?_
  refine h G B w _ (some b) _ ⟨hR, ⟨by show _ = n; rw [← a6]; exact hrel.1, fun i => hrel.2 i⟩, .nil, hφ⟩ hb ?_
  intro e aa mm ac w1 G1 hS hf hst
  cases e with
  | normal =>
    obtain ⟨pend1, t1, n1, ps1, as1, bd1, df1, hm1, hbody⟩ := hS
    have hb1 := hf.ext.f _ _ hb
    obtain ⟨hB1, l1, q1, q2, _⟩ := hst.mem.loop hb1 hm1
    obtain ⟨hR2, hf2⟩ := hst.mem.loopSet hb1 hm1 q1 .busy pend1
    obtain ⟨_, l1', q1', _, q3, _⟩ := hst.mem.loop hb1 hm1
    rw [q1] at q1'; cases q1'
    refine ⟨_, run_beginRound q1 q2, ?_⟩
    have hput : w1.putObj b (.loop { l1 with state := .busy }) = w1.putObj b (.loop { l1 with state := .busy, pending := pend1 }) := by
      congr 2; cases l1; simp_all
    rw [hput]
    refine hbody G1 B _ ac (some b) _ ⟨hR2, hst.act, hst.dfr, Side.stab hf2 hst.side⟩ hb1 ?_
    intro e2 a2 m2 ac2 w2 G2 hS2 hf3 hst2
    obtain ⟨j, hj, st2, pend2, t2, n2, ps2, as2, bd2, df2, hm2, hT⟩ := hS2
    have hb2 := hf3.ext.f _ _ hb1
    obtain ⟨_, l2, r1, _⟩ := hst2.mem.loop hb2 hm2
    obtain ⟨hR3, hf4⟩ := hst2.mem.loopSet hb2 hm2 r1 (if j.isNone then .ready else .done) j
    have fin : ∃ v w', (Instr.endRound b j).run P w2 = .ok v w' ∧ ∃ v' v0 G' m', Ending.returned v = .returned v' ∧ T v0 m' ∧ From G B w G' w' ∧ R G' B m' w' ∧ VRel G' v0 v' :=
      ⟨_, _, run_endRound j r1, _, _, G2, _, rfl, hT, ((hf.trans hf2).trans hf3).trans hf4, hR3, .bool _⟩
    cases e2 <;> simp only [jumpOf, Option.some.injEq] at hj <;> (try contradiction) <;> subst hj <;> exact fin
  | exit id => exact hS.elim
  | goto t => exact hS.elim
  | ret => exact hS.elim
  | panic ch => exact hS.elim
  | outgrown => exact hS.elim
end
end Go.Eng

/- The statement 'for .. := range f'; a function out of its body. -/
namespace Go.Eng
open Go.RowKit
variable [Side]
section
variable {P : Program} {p : Option Nat} {a : AAct} {m : Mem} {S : Exit → AAct → Mem → Prop}

/-- Behind the call of the function that is ranged over: the jump that a round has left, if any. -/
def afterRange (P : Program) (p : Option Nat) (kl : Nat) (a : AAct) (S : Exit → AAct → Mem → Prop) (m : Mem) : Prop :=
  ∃ st pend t n ps assign body dfr, m.h.get kl = some (.loop st pend t n ps assign body dfr) ∧ st ≠ .busy ∧
    match pend with
    | none => S .normal a (m.setObj kl (.loop .exhausted none t n ps assign body dfr))
    | some c => ACode P p c a (m.setObj kl (.loop .exhausted (some c) t n ps assign body dfr)) S

theorem VL.append {G : Ctx} {a b c d : List Value} (h1 : VL G a b) (h2 : VL G c d) : VL G (a ++ c) (b ++ d) := by
  induction h1 with
  | nil => exact h2
  | cons h t ih => exact .cons h ih
theorem VL.of {G : Ctx} : ∀ {l l' : List Value}, l'.length = l.length → (∀ (i : Nat) (x y : Value), l[i]? = some x → l'[i]? = some y → VRel G x y) → VL G l l'
  | [], l', hl, _ => by obtain rfl : l' = [] := List.eq_nil_of_length_eq_zero (by simpa using hl); exact .nil
  | x :: l, [], hl, _ => by simp at hl
  | x :: l, y :: l', hl, hv => .cons (hv 0 x y rfl rfl) (VL.of (by simpa using hl) fun i a b ha hb => hv (i + 1) a b (by simpa using ha) (by simpa using hb))

theorem range_call {g : Operand} {ps : Array Tmp} {assign body : Code} {f : FuncId} {caps : Array Value} (hg : a.ev g = some (.func (.func f) #[] caps)) (hc : callable P f = true) {T : Value → Mem → Prop}
    {kl : Nat} {m1 : Mem} {a1 : AAct} (hT : ACall P f (.func (.yield kl) #[] #[] :: caps.toList) m1 T) (h : ∀ v m2, T v m2 → afterRange P p kl a1 S m2)
    (henter : ∀ (G : Ctx) (B : Prot) (w : World) (a' : Act) (r : Option Nat) (fn : FuncId), St G B a m a' w → RR G p r → ∃ l mark w1 G1, (Instr.enterLoop fn a'.tmps ps assign body r).run P w = .ok (l, mark) w1 ∧
      From G B w G1 w1 ∧ R G1 B m1 w1 ∧ G1.f kl = some (l, 0) ∧ DRel G1 a1.d (mark ++ a'.defers) ∧ ARel G1 a1 a'.tmps) :
    ACode P p (.rangeFunc g ps assign body) a m S := fun G B w a' r Q hst hr hq => by
  refine wpIn_rangeFunc fun fn _ => ?_
  obtain ⟨l, mark, w1, G1, h1, hf1, hR1, hkl, hd1, ha1⟩ := henter G B w a' r fn hst hr
  have e1 := (hst.act.ev hg).mono hf1.ext
  generalize hgo : a'.eval g = gv at e1
  cases e1 with
  | func _ _ caps' hsz hcv =>
    have hres : (resolve a'.eval (rangeCall g l) 0).run P w1 = .ok { target := .fn (.func f) caps', args := #[.func (.yield l) #[] #[]] } w1 := by
      have h2 : a'.eval (.const (.func (.yield l) #[] #[])) = .func (.yield l) #[] #[] := rfl
      simp [resolve, rangeCall, hgo, Deferred.ofValue, h2]
    have hinv : (invoke (.fn (.func f) caps') #[.func (.yield l) #[] #[]]).run P w1 = .ok (.enter f (#[.func (.yield l) #[] #[]] ++ caps')) w1 := by
      simp only [invoke]
      exact callFunc_enter hc _ _
    refine ⟨l, mark, w1, _, w1, f, _, w1, h1, hres, fun _ _ => trivial, hinv, fun hx => (by simp [Wd, Fence.wide] at hx), ?_⟩
    have hvl : VL G1 (.func (.yield kl) #[] #[] :: caps.toList) (.func (.yield l) #[] #[] :: caps'.toList) :=
      .cons (.yield hkl) (VL.of (by simp [hsz]) fun i x y hx hy => hcv i x y (by simpa using hx) (by simpa using hy))
    have hcall := callsIn_wide (n := 0 - 1).2 (hT G1 B w1 _ hR1 (Side.stab hf1 hst.side) hvl)
    have hargs : (Value.func (.yield l) #[] #[] :: caps'.toList).toArray = #[.func (.yield l) #[] #[]] ++ caps' := by apply Array.ext'; simp
    rw [hargs] at hcall
    refine CallsIn.mono (F := Wd r) (show CallsIn (Wd r) (0 - 1) P f _ w1 _ from hcall) ?_
    rintro e w2 ⟨v', v, G2, m2, rfl, hTv, hf2, hR2, _⟩
    obtain ⟨st, pend, t, n, ps2, as2, bd2, df2, hm2, hbusy, hnext⟩ := h v m2 hTv
    have hb2 := hf2.ext.f _ _ hkl
    obtain ⟨_, l2, r1, r2, r3, _⟩ := hR2.loop hb2 hm2
    obtain ⟨hR3, hf3⟩ := hR2.loopSet hb2 hm2 r1 .exhausted pend
    have hfall := (hf1.trans hf2).trans hf3
    have hst3 : St G2 B a1 (m2.setObj kl (.loop .exhausted pend t n ps2 as2 bd2 df2)) { a' with defers := mark ++ a'.defers } (w2.putObj l (.loop { l2 with state := .exhausted })) := by
      have hput : w2.putObj l (.loop { l2 with state := .exhausted }) = w2.putObj l (.loop { l2 with state := .exhausted, pending := pend }) := by
        congr 2; cases l2; simp_all
      rw [hput]
      exact ⟨hR3, ha1.mono hf2.ext, hd1.mono hf2.ext, Side.stab hfall hst.side⟩
    have hfall' : From G B w G2 (w2.putObj l (.loop { l2 with state := .exhausted })) := by
      have hput : w2.putObj l (.loop { l2 with state := .exhausted }) = w2.putObj l (.loop { l2 with state := .exhausted, pending := pend }) := by
        congr 2; cases l2; simp_all
      rw [hput]; exact hfall
    refine ⟨pend, _, by rw [← r3]; exact run_endLoop r1 (by rw [r2]; exact hbusy), ?_⟩
    cases pend with
    | none => exact hq _ _ _ _ _ _ hnext hfall' hst3
    | some c =>
      exact hnext G2 B _ _ r Q hst3 (hr.mono hfall'.ext) fun e aa mm a2 w3 G3 hS hf4 => hq e aa mm a2 w3 G3 hS (hfall'.trans hf4)

/-- At an outermost loop. -/
theorem ACode.rangeOuter {g : Operand} {ps : Array Tmp} {assign body : Code} {f : FuncId} {caps : Array Value} (hg : a.ev g = some (.func (.func f) #[] caps)) (hc : callable P f = true) {T : Value → Mem → Prop}
    (hT : ACall P f (.func (.yield (m.nx + 1)) #[] #[] :: caps.toList) ((m.put .marks).put (.loop .ready none a.t a.n ps.toList assign body m.nx)) T)
    (h : ∀ v m2, T v m2 → afterRange P none (m.nx + 1) { a with d := m.nx :: a.d } S m2) : ACode P none (.rangeFunc g ps assign body) a m S := by
  refine range_call hg hc hT h fun G B w a' r fn hst hr => ?_
  cases r with
  | some b => exact hr.elim
  | none =>
    have e1 := (Ctx.grow_put hst.mem 0).toExt
    have g1 := Ctx.grow_put hst.mem 0
    have R1 : R (G.put m.nx w.heap.size 0 0) B (m.put .marks) (w.alloc (.deferred (some []))) :=
      hst.mem.alloc 0 (o := .marks) (fun g hg => by cases hg) ⟨rfl, hst.mem.base, (show (w.heap.push (Obj.deferred (some [])))[w.heap.size]? = _ from Array.getElem?_push_size)⟩
    have e2 := (Ctx.grow_put R1 0).toExt
    have g2 := Ctx.grow_put R1 0
    have hsz : (w.alloc (.deferred (some []))).heap.size = w.heap.size + 1 := World.size_alloc w _
    have hk : ((G.put m.nx w.heap.size 0 0).put (m.put .marks).nx (w.alloc (.deferred (some []))).heap.size 0 0).f m.nx = some (w.heap.size, 0) := e2.f _ _ (Ctx.put_f _ _ _ _ _)
    have hnx : (m.put .marks).nx = m.nx + 1 := rfl
    have R2 := R1.alloc 0 (o := .loop .ready none a.t a.n ps.toList assign body m.nx) (o' := .loop { state := .ready, pending := none, fn, tmps := a'.tmps, params := ps, assign, body, defers := w.heap.size }) (fun g hg => by cases hg)
      ⟨rfl, R1.base, _, (show ((w.alloc (.deferred (some []))).heap.push _)[(w.alloc (.deferred (some []))).heap.size]? = _ from Array.getElem?_push_size), rfl, rfl, by simp, rfl, rfl, hst.act.size, fun i => ((hst.act.rel i).mono e1).mono e2, hk⟩
    refine ⟨_, _, _, _, run_enterLoop_outer fn a'.tmps ps assign body, ⟨Grow.trans (by simp) g1 g2, ((Keep.refl B w).alloc hst.mem.base _).alloc R1.base _⟩, R2, ?_, .cons hk ((hst.dfr.mono e1).mono e2), ⟨hst.act.size, fun i => ((hst.act.rel i).mono e1).mono e2⟩⟩
    rw [← hsz]; exact Ctx.put_f _ _ _ _ _
/-- In the round of another loop. -/
theorem ACode.rangeInner {l0 : Nat} {g : Operand} {ps : Array Tmp} {assign body : Code} {f : FuncId} {caps : Array Value} (hg : a.ev g = some (.func (.func f) #[] caps)) (hc : callable P f = true) {T : Value → Mem → Prop}
    {st : LoopState} {pend : Option Code} {t : Eng.T Value} {n dfr : Nat} {ps0 : List Tmp} {assign0 body0 : Code} (hl : m.h.get l0 = some (.loop st pend t n ps0 assign0 body0 dfr))
    (hT : ACall P f (.func (.yield m.nx) #[] #[] :: caps.toList) (m.put (.loop .ready none a.t a.n ps.toList assign body dfr)) T)
    (h : ∀ v m2, T v m2 → afterRange P (some l0) m.nx a S m2) : ACode P (some l0) (.rangeFunc g ps assign body) a m S := by
  refine range_call hg hc hT h fun G B w a' r fn hst hr => ?_
  cases r with
  | none => exact hr.elim
  | some b =>
    have hb : G.f l0 = some (b, 0) := hr
    obtain ⟨hB, l', h1, a1, a2, a3, a4, a5, a6, a7, a8⟩ := hst.mem.loop hb hl
    have e1 := (Ctx.grow_put hst.mem 0).toExt
    have g1 := Ctx.grow_put hst.mem 0
    have R1 := hst.mem.alloc 0 (o := .loop .ready none a.t a.n ps.toList assign body dfr) (o' := .loop { state := .ready, pending := none, fn, tmps := a'.tmps, params := ps, assign, body, defers := l'.defers }) (fun g hg => by cases hg)
      ⟨rfl, hst.mem.base, _, (show (w.heap.push _)[w.heap.size]? = _ from Array.getElem?_push_size), rfl, rfl, by simp, rfl, rfl, hst.act.size, fun i => (hst.act.rel i).mono e1, e1.f _ _ a8⟩
    refine ⟨w.heap.size, [], _, _, ?_, ⟨g1, (Keep.refl B w).alloc hst.mem.base _⟩, R1, Ctx.put_f _ _ _ _ _, hst.dfr.mono e1, hst.act.mono e1⟩
    simp [Instr.enterLoop, run_getLoop h1]

/-! ### Results, calls -/
def takeMarks (m : Mem) : List Nat → Option Mem
  | [] => some m
  | k :: l => match m.h.get k with
    | some .marks => takeMarks (m.setObj k .gone) l
    | _ => none
def aresult (P : Program) (m : Mem) (a : AAct) : ResultVar → Option Value
  | .tmp t => some (a.look t)
  | .cell ad t => aload P m t (a.look ad)
def aresultL (P : Program) (m : Mem) (a : AAct) : List ResultVar → Option (List Value)
  | [] => some []
  | x :: l => match aresult P m a x, aresultL P m a l with
    | some v, some vs => some (v :: vs)
    | _, _ => none
def aresults (P : Program) (m : Mem) (a : AAct) (fn : Func) : Option Value :=
  match aresultL P m a fn.results.toList with
  | some [v] => some v
  | some vs => some (.tuple vs.toArray)
  | none => none
def resF (t' : Array Value) : ResultVar → Sem Value
  | .tmp t => pure (t'.getD t undef)
  | .cell ad t => do loadVar t (← asAddr (t'.getD ad undef))
theorem results_eq (fn : Func) (t' : Array Value) : results fn t' = (do let vs ← fn.results.mapM (resF t'); pure (if h : vs.size = 1 then vs[0] else .tuple vs)) := by
  rfl
theorem aresult_run {G : Ctx} {B : Prot} {w : World} {t' : Array Value} (hR : R G B m w) (hA : ARel G a t') {x : ResultVar} {v : Value} (h : aresult P m a x = some v) :
    ∃ v', (resF t' x).run P w = .ok v' w ∧ VRel G v v' := by
  cases x with
  | tmp t => simp only [aresult, Option.some.injEq] at h; subst h; exact ⟨_, rfl, hA.rel t⟩
  | cell ad t =>
    simp only [aresult] at h
    obtain ⟨v', h1, h2⟩ := aload_run hR h (hA.rel ad)
    refine ⟨v', ?_, h2⟩
    show ((do loadVar t (← asAddr (t'.getD ad undef))) : Sem Value).run P w = .ok v' w
    generalize t'.getD ad undef = q at h1 ⊢
    cases q <;> simp only [Instr.loadAt, Instr.sureAddr, Sem.run_bind, run_stuck, Result.andThen_halt] at h1 <;> (try contradiction)
    rename_i ao
    cases ao <;> simp only [Instr.sureAddr, Sem.run_bind, run_stuck, Result.andThen_halt, Sem.run_pure, Result.andThen_ok] at h1 <;> (try contradiction)
    simp only [asAddr, Sem.run_bind, Sem.run_pure, Result.andThen_ok]
    exact h1
theorem aresultL_run {G : Ctx} {B : Prot} {w : World} {t' : Array Value} (hR : R G B m w) (hA : ARel G a t') : ∀ {l : List ResultVar} {vs : List Value}, aresultL P m a l = some vs →
    ∃ vs', (l.mapM (resF t')).run P w = .ok vs' w ∧ VL G vs vs' := by
  intro l
  induction l with
  | nil => intro vs h; simp only [aresultL, Option.some.injEq] at h; subst h; exact ⟨[], rfl, .nil⟩
  | cons x l ih =>
    intro vs h
    simp only [aresultL] at h
    split at h
    · rename_i v us h1 h2
      cases h
      obtain ⟨v', r1, r2⟩ := aresult_run hR hA h1
      obtain ⟨us', r3, r4⟩ := ih h2
      exact ⟨v' :: us', by simp only [List.mapM_cons, Sem.run_bind, r1, r3, Result.andThen_ok, Sem.run_pure], .cons r2 r4⟩
    · cases h
theorem aresults_run {G : Ctx} {B : Prot} {w : World} {t' : Array Value} (hR : R G B m w) (hA : ARel G a t') {fn : Func} {v : Value} (h : aresults P m a fn = some v) :
    ∃ v', (results fn t').run P w = .ok v' w ∧ VRel G v v' := by
  unfold aresults at h
  have key : ∀ vs, aresultL P m a fn.results.toList = some vs → ∃ vs' : List Value, (fn.results.mapM (resF t')).run P w = .ok vs'.toArray w ∧ VL G vs vs' := fun vs hvs => by
    obtain ⟨vs', r1, r2⟩ := aresultL_run hR hA hvs
    refine ⟨vs', ?_, r2⟩
    have h2 := congrArg (fun s => Sem.run P s w) (Array.toList_mapM (m := Sem) (f := resF t') (xs := fn.results))
    simp only [Sem.run_map] at h2
    rw [r1] at h2
    cases hr : (fn.results.mapM (resF t')).run P w with
    | ok q w' =>
      rw [hr] at h2
      simp only [Result.andThen_ok, Result.ok.injEq] at h2
      obtain ⟨h3, rfl⟩ := h2
      congr 1
      apply Array.ext'
      simpa using h3
    | halt x w' => rw [hr] at h2; simp at h2
  split at h
  · rename_i v0 hvs
    cases h
    obtain ⟨vs', r1, r2⟩ := key _ hvs
    obtain ⟨v', rfl, hv⟩ := r2.one'
    exact ⟨v', by rw [results_eq]; simp only [Sem.run_bind, r1, Result.andThen_ok]; rfl, hv⟩
  · rename_i vs hne hvs
    cases h
    obtain ⟨vs', r1, r2⟩ := key _ hvs
    refine ⟨.tuple vs'.toArray, ?_, .tuple _ _ (by simp [r2.length]) r2.arr⟩
    have hlen : vs'.toArray.size ≠ 1 := by
      have := r2.length
      intro h1
      have h2 : vs.length = 1 := by simp at h1; omega
      match vs, h2 with
      | [x], _ => exact hne x rfl
    rw [results_eq]
    simp only [Sem.run_bind, r1, Result.andThen_ok]
    rw [dif_neg hlen]; rfl
  · cases h

def entry (vs : List Value) (n : Nat) : AAct := { t := setAll .leaf (List.range vs.length) vs, n := n, d := [] }
theorem entry_look : ∀ (vs : List Value) (k : Nat) (t : T Value) (i : Nat), (setAll t (List.range' k vs.length) vs).get i = if k ≤ i then (match vs[i - k]? with | some v => some v | none => t.get i) else t.get i := by
  intro vs
  induction vs with
  | nil => intro k t i; simp [setAll]
  | cons v vs ih =>
    intro k t i
    simp only [List.length_cons, List.range'_succ, setAll]
    rw [ih, T.get_set]
    by_cases h1 : k + 1 ≤ i
    · rw [if_pos h1, if_pos (show k ≤ i by omega)]
      obtain ⟨j, hj⟩ : ∃ j, i - k = j + 1 := ⟨i - k - 1, by omega⟩
      have hj2 : i - (k + 1) = j := by omega
      rw [hj, hj2, if_neg (show ¬ i = k by omega)]
      rfl
    · rw [if_neg h1]
      by_cases h2 : i = k
      · subst h2; simp
      · rw [if_neg h2, if_neg (show ¬ k ≤ i by omega)]
theorem entry_rel {G : Ctx} {vs vs' : List Value} (h : VL G vs vs') {n : Nat} (hn : vs.length ≤ n) : ARel G (entry vs n) (vs'.toArray ++ Array.replicate (n - vs'.toArray.size) undef) := by
  have hl := h.length
  refine ⟨by simp [entry]; omega, fun i => ?_⟩
  have e : (entry vs n).look i = match vs[i]? with | some v => v | none => undef := by
    unfold entry AAct.look
    rw [List.range_eq_range', entry_look, if_pos (Nat.zero_le _), Nat.sub_zero]
    cases vs[i]? <;> simp [T.get_leaf]
  rw [e]
  rcases Nat.lt_or_ge i vs.length with hi | hi
  · have h1 : vs[i]? = some vs[i] := List.getElem?_eq_getElem hi
    have h0 : i < vs'.length := Nat.lt_of_lt_of_eq hi hl.symm
    have h2 : vs'[i]? = some (vs'[i]'h0) := List.getElem?_eq_getElem h0
    have := h.get i _ _ h1 h2
    rw [h1]
    have e2 : (vs'.toArray ++ Array.replicate (n - vs'.toArray.size) undef).getD i undef = vs'[i]'h0 := by
      have h3 : i < vs'.toArray.size := by rw [List.size_toArray, hl]; exact hi
      rw [Array.getD_eq_getD_getElem?, Array.getElem?_append_left h3, List.getElem?_toArray, h2]; rfl
    rw [e2]; exact this
  · rw [List.getElem?_eq_none hi]
    have e2 : (vs'.toArray ++ Array.replicate (n - vs'.toArray.size) undef).getD i undef = undef := by
      have h3 : vs'.toArray.size ≤ i := by rw [List.size_toArray, hl]; exact hi
      rw [Array.getD_eq_getD_getElem?, Array.getElem?_append_right h3]
      cases hq : (Array.replicate (n - vs'.toArray.size) undef)[i - vs'.toArray.size]? with
      | none => rfl
      | some u =>
        have := Array.mem_of_getElem? hq
        simp at this
        simp [this.2]
    rw [e2]; exact VRel.undef G
theorem ACall.of_code {f : FuncId} {fn : Func} {c : Code} {vs : List Value} {T : Value → Mem → Prop} (hf : P.funcs[f]? = some fn) (hb : fn.body = some c) (hn : vs.length ≤ fn.ntmps)
    (h : ACode P none c (entry vs fn.ntmps) m fun e a1 m1 => (e = .normal ∨ e = .ret) ∧ ∃ m2, takeMarks m1 a1.d = some m2 ∧ ∃ v, aresults P m2 a1 fn = some v ∧ T v m2) : ACall P f vs m T := fun G B w args' hR hφ hv => by
  refine callsIn_wide (n := 0).1 ?_
  refine callsIn_of_wp_marks hf hb trivial ?_
  refine h G B w _ none _ ⟨hR, entry_rel hv hn, .nil, hφ⟩ trivial ?_
  rintro e aa mm a1 w1 G1 ⟨he, m2, htm, v, hres, hT⟩ hf1 hst
  have leave : ∀ (ds : List Nat) (m1 m2 : Mem) (dfr : List Deferred) (w1 : World), takeMarks m1 ds = some m2 → DRel G1 ds dfr → R G1 B m1 w1 → From G B w G1 w1 → aresults P m2 aa fn = some v → T v m2 →
      LeavesInM (Wd none) 0 P fn a1.tmps (fun e w' => ∃ v' v G' m', e = Ending.returned v' ∧ T v m' ∧ From G B w G' w' ∧ R G' B m' w' ∧ VRel G' v v') dfr .returning w1 := by
    intro ds
    induction ds with
    | nil =>
      intro m1 m2 dfr w1 htm hd hR1 hf2 hres hT
      cases hd
      simp only [takeMarks, Option.some.injEq] at htm
      subst htm
      obtain ⟨v', q1, q2⟩ := aresults_run hR1 hst.act hres
      exact ⟨v', q1, v', v, G1, _, rfl, hT, hf2, hR1, q2⟩
    | cons k ds ih =>
      intro m1 m2 dfr w1 htm hd hR1 hf2 hres hT
      cases hd with
      | cons hk hd' =>
        rename_i b dfr'
        simp only [takeMarks] at htm
        split at htm
        · rename_i hm
          obtain ⟨o, ho, ro⟩ := hR1.obj _ _ _ hk
          rw [hm] at ho; cases ho
          obtain ⟨_, hB, hw⟩ := ro
          refine ⟨by simp, .inl ⟨b, _, rfl, run_takeDeferred hw, ?_⟩⟩
          refine ih _ m2 dfr' _ htm hd' (hR1.setObj hk hm rfl rfl ⟨rfl, hB⟩) (hf2.trans ⟨Grow.refl _ _, keep_setObj hB _⟩) hres hT
        · cases htm
  rcases he with rfl | rfl
  · exact leave _ _ _ _ _ htm hst.dfr hst.mem hf1 hres hT
  · exact leave _ _ _ _ _ htm hst.dfr hst.mem hf1 hres hT
end
end Go.Eng

/- A region that draws its order: one order serves all. -/
namespace Go.Eng
open Go.RowKit
variable [Side]

/-! ### 1. What an operation looks at -/
theorem evs_congr {a b : AAct} : ∀ {l : List Operand}, (∀ x ∈ l, a.ev x = b.ev x) → a.evs l = b.evs l
  | [], _ => rfl
  | x :: l, h => by simp only [AAct.evs]; rw [h x (by simp), evs_congr (fun y hy => h y (by simp [hy]))]
theorem parts_congr {a b : AAct} : ∀ {l : List (Nat × Operand)}, (∀ x ∈ l, a.ev x.2 = b.ev x.2) → a.parts l = b.parts l
  | [], _ => rfl
  | (i, x) :: l, h => by simp only [AAct.parts]; rw [h (i, x) (by simp), parts_congr (fun y hy => h y (by simp [hy]))]
theorem call_ops {c : Call} {x : Operand} (h : x ∈ c.args.toList) : x ∈ (Op.call c).operands := by
  simp only [Op.operands, Call.operands]
  exact Array.mem_append_right _ (by simpa using h)
theorem call_fun {c : Call} {f : Operand} (h : c.callee = .value f) : f ∈ (Op.call c).operands := by
  simp only [Op.operands, Call.operands, h]
  exact Array.mem_append_left _ (by simp)
theorem aval_congr {P : Program} {m : Mem} {a b : AAct} (op : Go.Op) (h : ∀ x ∈ op.operands, a.ev x = b.ev x) : aval P m a op = aval P m b op := by
  cases op with
  | call c =>
    simp only [aval]
    rw [evs_congr (a := a) (b := b) (l := c.args.toList) fun x hx => h x (call_ops hx)]
  | makeFunc fn first caps =>
    cases fn <;> simp only [aval]
    rw [evs_congr (a := a) (b := b) (l := caps.toList) fun x hx => h x (by simp only [Op.operands]; exact Array.mem_append_right _ (by simpa using hx))]
  | slice t x lo hi mx =>
    have hx := h x (by simp [Op.operands])
    cases mx with
    | some z => cases lo <;> cases hi <;> rfl
    | none =>
      cases lo with
      | none =>
        cases hi with
        | none => simp only [aval]; rw [hx]
        | some z => simp only [aval]; rw [hx, h z (by simp [Op.operands])]
      | some y =>
        cases hi with
        | none => simp only [aval]; rw [hx, h y (by simp [Op.operands])]
        | some z => simp only [aval]; rw [hx, h y (by simp [Op.operands]), h z (by simp [Op.operands])]
  | pick c x y => simp only [aval]; rw [h c (by simp [Op.operands]), h x (by simp [Op.operands]), h y (by simp [Op.operands])]
  | _ => first
    | rfl
    | (simp only [Op.operands] at h; simp only [aval]; simp only [h _ (List.mem_toArray.2 (List.mem_cons_self ..)), h _ (List.mem_toArray.2 (List.mem_cons_of_mem _ (List.mem_cons_self ..)))]; done)
    | (simp only [Op.operands] at h; simp only [aval]; simp only [h _ (List.mem_toArray.2 (List.mem_cons_self ..))]; done)
theorem asym_congr {P : Program} {a b : AAct} (op : Go.Op) (h : ∀ x ∈ op.operands, a.ev x = b.ev x) : asym P a op = asym P b op := by
  cases op with
  | binOp op t x y yt => simp only [asym]; rw [h x (by simp [Op.operands]), h y (by simp [Op.operands])]
  | unOp op t x => cases op <;> simp only [asym] <;> rw [h x (by simp [Op.operands])]
  | convert s d x => simp only [asym]; rw [h x (by simp [Op.operands])]
  | call c =>
    simp only [asym]
    split
    · rename_i x t h1 h2 h3
      rw [h x (call_ops (by rw [h2]; simp))]
    · rfl
  | _ => rfl
theorem alight_congr {P : Program} {m : Mem} {a b : AAct} (op : Go.Op) (h : ∀ x ∈ op.operands, a.ev x = b.ev x) : alight P m a op = alight P m b op := by
  cases op with
  | build t parts =>
    simp only [alight]
    rw [parts_congr (a := a) (b := b) (l := parts.toList) fun x hx => h x.2 (by simp only [Op.operands, List.mem_toArray, List.mem_map]; exact ⟨x, hx, rfl⟩)]
  | entry x => simp only [alight]; rw [h x (by simp [Op.operands])]
  | _ => simp only [alight]; rw [aval_congr (P := P) (m := m) (a := a) (b := b) _ h, asym_congr (P := P) (a := a) (b := b) _ h]
theorem aheavy_congr {P : Program} {m : Mem} {a b : AAct} (op : Go.Op) (h : ∀ x ∈ op.operands, a.ev x = b.ev x) : aheavy P m a op = aheavy P m b op := by
  cases op with
  | call c =>
    simp only [aheavy]
    rw [evs_congr (a := a) (b := b) (l := c.args.toList) fun x hx => h x (call_ops hx)]
  | buildSlice t n parts =>
    simp only [aheavy]
    rw [parts_congr (a := a) (b := b) (l := parts.toList) fun x hx => h x.2 (by simp only [Op.operands, List.mem_toArray, List.mem_map]; exact ⟨x, hx, rfl⟩)]
  | makeMap t r => cases r <;> rfl
  | mapUpdate t x k v => simp only [aheavy]; rw [h x (by simp [Op.operands]), h k (by simp [Op.operands]), h v (by simp [Op.operands])]
  | insert t x k v => simp only [aheavy]; rw [h x (by simp [Op.operands]), h k (by simp [Op.operands]), h v (by simp [Op.operands])]
  | _ => first
    | rfl
    | (simp only [Op.operands] at h; simp only [aheavy]; simp only [h _ (List.mem_toArray.2 (List.mem_cons_self ..)), h _ (List.mem_toArray.2 (List.mem_cons_of_mem _ (List.mem_cons_self ..)))]; done)
    | (simp only [Op.operands] at h; simp only [aheavy]; simp only [h _ (List.mem_toArray.2 (List.mem_cons_self ..))]; done)

/-! ### 2. Frames that read alike -/
structure AEq (a b : AAct) : Prop where
  n : a.n = b.n
  d : a.d = b.d
  look : ∀ i, a.look i = b.look i
theorem AOps.nil' {P : Program} {ops : Array Oper} {a b : AAct} {m : Mem} {S : AAct → Mem → Prop} (e : AEq a b) (h : S b m) : AOps P ops [] a m S := fun G B w a' r Q hs hq =>
  hq _ _ _ _ G h (From.refl ..) ⟨hs.mem, ⟨by rw [hs.act.size, e.n], fun i => by rw [← e.look]; exact hs.act.rel i⟩, by rw [← e.d]; exact hs.dfr, hs.side⟩
theorem ev_of_look {ops : Array Oper} {o : Oper} {a b : AAct} (h : ∀ s ∈ o.looksAt ops, a.look s = b.look s) : ∀ x ∈ o.op.operands, a.ev x = b.ev x := by
  intro x hx
  cases x with
  | tmp t =>
    simp only [AAct.ev]
    rw [h t (List.mem_append_left _ (List.mem_filterMap.2 ⟨.tmp t, by simpa using hx, rfl⟩))]
  | _ => rfl
theorem awanted_of_look {ops : Array Oper} {o : Oper} {a b : AAct} (hn : a.n = b.n) (h : ∀ s ∈ o.looksAt ops, a.look s = b.look s) : awanted ops a o = awanted ops b o := by
  unfold awanted Region.wanted
  cases hg : o.guard with
  | none => rfl
  | some gw =>
    obtain ⟨g, want⟩ := gw
    have : ayield ops a g = ayield ops b g := by
      unfold ayield
      cases ht : (ops[g]?).bind (·.dst) with
      | none => rfl
      | some t =>
        have := h t (List.mem_append_right _ (by simp [hg, ht]))
        simp only [hn, this]
    simp only [this]

theorem askip_of_look {ops : Array Oper} {o : Oper} {a b : AAct} (hn : a.n = b.n) (h : ∀ s ∈ o.looksAt ops, a.look s = b.look s) : askip ops a o = askip ops b o := by
  unfold askip
  rw [awanted_of_look hn h]
  cases hg : o.guard with
  | none => rfl
  | some gw =>
    obtain ⟨g, want⟩ := gw
    have : atok ops a g = atok ops b g := by
      unfold atok
      cases ht : (ops[g]?).bind (·.dst) with
      | none => rfl
      | some t =>
        have := h t (List.mem_append_right _ (by simp [hg, ht]))
        simp only [this]
    simp only [this]
/-! ### 3. What comes ahead of what -/
inductive Reach (ops : Array Oper) : Nat → Nat → Prop
  | one {i : Nat} {o : Oper} {e : Edge} (ho : ops[i]? = some o) (he : e ∈ o.after) (hb : Region.binds .any e = true) : Reach ops i e.on
  | step {i j : Nat} {o : Oper} {e : Edge} (ho : ops[i]? = some o) (he : e ∈ o.after) (hb : Region.binds .any e = true) (h : Reach ops e.on j) : Reach ops i j
/-- A set that holds all that comes ahead of what it holds. -/
def Closed (ops : Array Oper) (L : Nat → Bool) : Prop := ∀ i o e, L i = true → ops[i]? = some o → e ∈ o.after → Region.binds .any e = true → L e.on = true
theorem Closed.reach {ops : Array Oper} {L : Nat → Bool} (h : Closed ops L) {i j : Nat} (hi : L i = true) (hr : Reach ops i j) : L j = true := by
  induction hr with
  | one ho he hb => exact h _ _ _ hi ho he hb
  | step ho he hb _ ih => exact ih (h _ _ _ hi ho he hb)
theorem Closed.ready {ops : Array Oper} {L : Nat → Bool} (h : Closed ops L) {i j : Nat} {o : Oper} (ho : ops[i]? = some o) (hd : ∀ e ∈ o.after, Region.binds .any e = true → L e.on = true) (hr : Reach ops i j) : L j = true := by
  cases hr with
  | one ho' he hb => rw [ho] at ho'; cases ho'; exact hd _ he hb
  | step ho' he hb hr => rw [ho] at ho'; cases ho'; exact h.reach (hd _ he hb) hr

def DetStep (P : Program) (op : Go.Op) (A : AAct) (M : Mem) (v : Value) (M' : Mem) : Prop :=
  ((∀ c, op ≠ .defer c) ∧ aheavy P M A op = some [(v, M')]) ∨
  (∃ c fo f caps vs, op = .call c ∧ c.callee = .value fo ∧ A.ev fo = some (.func (.func f) #[] caps) ∧ A.evs c.args.toList = some vs ∧ AInv P f (vs ++ caps.toList) M fun v1 m1 => v1 = v ∧ m1 = M') ∨
  (∃ c fo k vs, op = .call c ∧ c.callee = .value fo ∧ A.ev fo = some (.func (.yield k) #[] #[]) ∧ A.evs c.args.toList = some vs ∧ ARound P k vs M fun v1 m1 => v1 = v ∧ m1 = M')
theorem DetStep.congr {P : Program} {op : Go.Op} {A A' : AAct} {M M' : Mem} {v : Value} (h : ∀ x ∈ op.operands, A.ev x = A'.ev x) (hd : DetStep P op A M v M') : DetStep P op A' M v M' := by
  rcases hd with ⟨h0, h1⟩ | ⟨c, fo, f, caps, vs, rfl, h1, h2, h3, h4⟩ | ⟨c, fo, k, vs, rfl, h1, h2, h3, h4⟩
  · exact .inl ⟨h0, by rw [← aheavy_congr op h]; exact h1⟩
  · refine .inr (.inl ⟨c, fo, f, caps, vs, rfl, h1, by rw [← h fo (call_fun h1)]; exact h2, ?_, h4⟩)
    rw [← evs_congr (a := A) (b := A') fun x hx => h x (call_ops hx)]; exact h3
  · refine .inr (.inr ⟨c, fo, k, vs, rfl, h1, by rw [← h fo (call_fun h1)]; exact h2, ?_, h4⟩)
    rw [← evs_congr (a := A) (b := A') fun x hx => h x (call_ops hx)]; exact h3
theorem AOps.det {P : Program} {ops : Array Oper} {i : Nat} {l : List Nat} {a : AAct} {m m' : Mem} {v : Value} {S : AAct → Mem → Prop} {o : Oper} (ho : ops[i]? = some o) (hw : awanted ops a o = true) (hd : dstOk a o.dst = true) (hs : DetStep P o.op a m v m') (h : AOps P ops l (a.put o.dst v) m' S) : AOps P ops (i :: l) a m S := by
  rcases hs with ⟨h0, h1⟩ | ⟨c, fo, f, caps, vs, h0, h1, h2, h3, h4⟩ | ⟨c, fo, k, vs, h0, h1, h2, h3, h4⟩
  · exact AOps.heavy ho hw h0 h1 hd fun p hp => by rw [List.mem_singleton] at hp; subst hp; exact h
  · exact AOps.call ho h0 hw h1 h2 h3 hd h4 fun v1 m1 ⟨e1, e2⟩ => by subst e1; subst e2; exact h
  · exact AOps.yield ho h0 hw h1 h2 h3 hd h4 fun v1 m1 ⟨e1, e2⟩ => by subst e1; subst e2; exact h
end Go.Eng

/- An operation looks at the frame through what it reads alone. -/
namespace Go.Eng
open Go.RowKit
theorem uponIn_act {F : Fence} {n : Nat} {P : Program} {o : Oper} {a a' : Act} {next next' : Act → World → Prop} {Q Q' : Exit → Act → World → Prop} {res : Result Next} (hdef : ∀ d w, next ({ a with defers := d :: a.defers }.put o.dst undef) w → False)
    (hnext : ∀ v w, next (a.put o.dst v) w → next' (a'.put o.dst v) w) (hQ : ∀ c b w, ¬ Q (.panic c) b w) (hL : LetsOut Q → False) (h : o.uponIn F n P a next Q res) : o.uponIn F n P a' next' Q' res := by
  cases res with
  | ok r w =>
    cases r with
    | value v => exact hnext _ _ h
    | skip => exact hnext _ _ h
    | defer d => exact (hdef d w h).elim
    | enter f args =>
      refine ⟨h.1, h.2.mono fun e w' he => ?_⟩
      cases e with
      | returned v => exact hnext _ _ he
      | panicked c => exact (hQ _ _ _ he).elim
      | outgrown => exact (hL he).elim
    | row r args => exact ⟨h.1, h.2.mono fun v w' he => hnext _ _ he⟩
    | round l f tmps as bd =>
      refine ⟨h.1, RoundIn.mono h.2 fun e w' he => ?_⟩
      cases e with
      | returned v => exact hnext _ _ he
      | panicked c => exact (hQ _ _ _ he).elim
      | outgrown => exact (hL he).elim
    | _ => exact h.elim
  | halt x w =>
    cases x with
    | panic v => exact (hQ _ _ _ h).elim
    | _ => exact h.elim
/-! ### A block that comes later than its number -/
def Prot.plus (B : Prot) (b : Nat) : Prot := ⟨fun k => B.p k ∨ k = b⟩
theorem ORel.less {G : Ctx} {B B' : Prot} (hB : ∀ k, B.p k → B'.p k) {m : Mem} {k b d : Nat} {w : World} {o : AObj} (h : ORel G B' m k b d w o) : ORel G B m k b d w o := by
  have fr : B'.free b → B.free b := fun h hk => h (hB _ hk)
  cases o <;> simp only [ORel] at h ⊢
  case cells cs g wr =>
    obtain ⟨c, t, fz, h1, h2, h3, h4⟩ := h
    exact ⟨c, t, fz, h1, h2, fun hw => ⟨fr (h3 hw).1, (h3 hw).2⟩, h4⟩
  case map es clock wr => exact ⟨h.1, fun hw => fr (h.2.1 hw), h.2.2⟩
  case iter mp since seen stepped => exact ⟨h.1, fr h.2.1, h.2.2⟩
  case loop st pend t n params assign body dfr => exact ⟨h.1, fr h.2.1, h.2.2⟩
  case marks => exact ⟨h.1, fr h.2.1, h.2.2⟩
  case gone => exact ⟨h.1, fr h.2⟩
def Mem.fill (m : Mem) (k : Nat) (o : AObj) : Mem := { m with h := m.h.set k (some o) }
theorem R.fill {G : Ctx} {B : Prot} {b : Nat} {m : Mem} {w : World} (h : R G (B.plus b) m w) {k : Nat} {z : Array Value} {t : TypeId} {cs : List Value} (hb : w.heap[b]? = some (.cells z t (0, 0))) (hBb : B.free b) (hole : m.h.get k = none) (hgs : m.gs.get k = none) (hk : k < m.nx)
    (hr : ∀ j p, G.f j = some p → p.1 ≠ b) (hl : cs.length = z.size) (hv : ∀ (i : Nat) (v : Value), cs[i]? = some v → v.oneCell' = true ∧ ∃ v', z[i]? = some v' ∧ VRel G v v') :
    R (G.put k b 0 z.size) B (m.fill k (.cells cs k true)) w ∧ Ext G (G.put k b 0 z.size) := by
  have hGk : G.f k = none := by
    cases hq : G.f k with
    | none => rfl
    | some p => obtain ⟨o, ho, _⟩ := h.obj k p.1 p.2 hq; rw [hole] at ho; cases ho
  have e : Ext G (G.put k b 0 z.size) := by
    refine ⟨fun j p hj => ?_, fun j p hj => ?_, rfl⟩
    · show (if j = k then some (b, 0) else G.f j) = some p
      rw [if_neg (fun e => by subst e; rw [hGk] at hj; cases hj)]; exact hj
    · show (if p.1 = b then z.size else G.sz p.1) = G.sz p.1
      rw [if_neg (hr j p hj)]
  have hput : ∀ j, (m.fill k (.cells cs k true)).h.get j = if j = k then some (.cells cs k true) else m.h.get j := fun j => T.get_set _ _ _ _
  have hf : ∀ j, (G.put k b 0 z.size).f j = if j = k then some (b, 0) else G.f j := fun j => rfl
  refine ⟨⟨fun j c d hj => ?_, fun j c d hj => ?_, fun j i c d d' hj hi hne => ?_, fun j cs' g wr hj => ?_, fun j hj => ?_, fun j hj => h.low j (Or.inl hj)⟩, e⟩
  · rw [hf] at hj
    split at hj
    · cases hj; exact (Array.getElem?_eq_some_iff.1 hb).1
    · exact h.dom j c d hj
  · rw [hf] at hj
    split at hj
    · rename_i hjk
      cases hj; subst hjk
      refine ⟨.cells cs j true, by rw [hput, if_pos rfl], z, t, (0, 0), hb, ?_, fun _ => ⟨hBb, rfl⟩, fun _ => ⟨by omega, fun i v hi => ?_⟩⟩
      · show z.size = if b = b then z.size else G.sz b
        rw [if_pos rfl]
      · obtain ⟨h1, v', h2, h3⟩ := hv i v hi
        exact ⟨h1, v', by rw [Nat.zero_add]; exact h2, h3.mono e⟩
    · rename_i hjk
      obtain ⟨x, hx, hrx⟩ := h.obj j c d hj
      exact ⟨x, by rw [hput, if_neg hjk]; exact hx, ((hrx.less (B := B) (fun _ h => Or.inl h)).mono e hj).groups (fun g _ hle => hle)⟩
  · rw [hf] at hj hi
    split at hj
    · split at hi
      · omega
      · cases hj; exact absurd rfl (hr i _ hi)
    · split at hi
      · cases hi; exact absurd rfl (hr j _ hj)
      · rename_i h1 h2
        obtain ⟨a1, a2, a3, a4, a5, a6, a7⟩ := h.alias j i c d d' hj hi hne
        exact ⟨a1, a2, a3, a4, a5, by rw [hput, if_neg h1]; exact a6, by rw [hput, if_neg h2]; exact a7⟩
  · rw [hput] at hj
    split at hj
    · rename_i hjk
      cases hj; subst hjk
      show j ≤ Mem.cur m j ∧ j ≤ j
      unfold Mem.cur; rw [hgs]; exact ⟨Nat.le_refl _, Nat.le_refl _⟩
    · exact h.top j cs' g wr hj
  · have hj' : m.nx ≤ j := hj
    exact ⟨by rw [hput, if_neg (by omega)]; exact (h.fresh j hj').1, (h.fresh j hj').2⟩
theorem R.late {G : Ctx} {B : Prot} {b : Nat} {m : Mem} {w : World} (h : R G (B.plus b) m w) {z : Array Value} {t : TypeId} {cs : List Value} (hb : w.heap[b]? = some (.cells z t (0, 0))) (hBb : B.free b)
    (hr : ∀ j p, G.f j = some p → p.1 ≠ b) (hl : cs.length = z.size) (hv : ∀ (i : Nat) (v : Value), cs[i]? = some v → v.oneCell' = true ∧ ∃ v', z[i]? = some v' ∧ VRel G v v') :
    R (G.put m.nx b 0 z.size) B (m.put (.cells cs m.nx true)) w ∧ Ext G (G.put m.nx b 0 z.size) := by
  have hole := (h.fresh m.nx (Nat.le_refl _)).1
  have hgs := (h.fresh m.nx (Nat.le_refl _)).2
  generalize hkn : m.nx = k at hole hgs ⊢
  have hq0 : m.put (.cells cs k true) = { m with h := m.h.set k (some (.cells cs k true)), nx := k + 1 } := by unfold Mem.put; rw [hkn]
  rw [hq0]
  have hGk : G.f k = none := by
    cases hq : G.f k with
    | none => rfl
    | some p => obtain ⟨o, ho, _⟩ := h.obj k p.1 p.2 hq; rw [hole] at ho; cases ho
  have e : Ext G (G.put k b 0 z.size) := by
    refine ⟨fun j p hj => ?_, fun j p hj => ?_, rfl⟩
    · show (if j = k then some (b, 0) else G.f j) = some p
      rw [if_neg (fun e => by subst e; rw [hGk] at hj; cases hj)]; exact hj
    · show (if p.1 = b then z.size else G.sz p.1) = G.sz p.1
      rw [if_neg (hr j p hj)]
  have hput : ∀ j, ({ m with h := m.h.set k (some (.cells cs k true)), nx := k + 1 } : Mem).h.get j = if j = k then some (.cells cs k true) else m.h.get j := fun j => T.get_set _ _ _ _
  have hf : ∀ j, (G.put k b 0 z.size).f j = if j = k then some (b, 0) else G.f j := fun j => rfl
  refine ⟨⟨fun j c d hj => ?_, fun j c d hj => ?_, fun j i c d d' hj hi hne => ?_, fun j cs' g wr hj => ?_, fun j hj => ?_, fun j hj => h.low j (Or.inl hj)⟩, e⟩
  · rw [hf] at hj
    split at hj
    · cases hj; exact (Array.getElem?_eq_some_iff.1 hb).1
    · exact h.dom j c d hj
  · rw [hf] at hj
    split at hj
    · rename_i hjk
      cases hj; subst hjk
      refine ⟨.cells cs j true, by rw [hput, if_pos rfl], z, t, (0, 0), hb, ?_, fun _ => ⟨hBb, rfl⟩, fun _ => ⟨by omega, fun i v hi => ?_⟩⟩
      · show z.size = if b = b then z.size else G.sz b
        rw [if_pos rfl]
      · obtain ⟨h1, v', h2, h3⟩ := hv i v hi
        exact ⟨h1, v', by rw [Nat.zero_add]; exact h2, h3.mono e⟩
    · rename_i hjk
      obtain ⟨x, hx, hrx⟩ := h.obj j c d hj
      exact ⟨x, by rw [hput, if_neg hjk]; exact hx, ((hrx.less (B := B) (fun _ h => Or.inl h)).mono e hj).groups (fun g _ hle => hle)⟩
  · rw [hf] at hj hi
    split at hj
    · split at hi
      · omega
      · cases hj; exact absurd rfl (hr i _ hi)
    · split at hi
      · cases hi; exact absurd rfl (hr j _ hj)
      · rename_i h1 h2
        obtain ⟨a1, a2, a3, a4, a5, a6, a7⟩ := h.alias j i c d d' hj hi hne
        exact ⟨a1, a2, a3, a4, a5, by rw [hput, if_neg h1]; exact a6, by rw [hput, if_neg h2]; exact a7⟩
  · rw [hput] at hj
    split at hj
    · rename_i hjk
      cases hj; subst hjk
      show j ≤ Mem.cur m j ∧ j ≤ j
      unfold Mem.cur; rw [hgs]; exact ⟨Nat.le_refl _, Nat.le_refl _⟩
    · exact h.top j cs' g wr hj
  · have hj' : k + 1 ≤ j := hj
    exact ⟨by rw [hput, if_neg (by omega)]; exact (h.fresh j (by omega)).1, (h.fresh j (by omega)).2⟩
end Go.Eng

/- Operations with blocks that are there before the abstract memory has them. -/
namespace Go.Eng
open Go.RowKit
variable [Side]
theorem look_put' (a : AAct) (d : Option Tmp) (v : Value) (i : Nat) : (a.put d v).look i = if d = some i then v else a.look i := by
  cases d with
  | none => simp [AAct.put]
  | some d =>
    rw [AAct.look_put]
    by_cases h : i = d
    · subst h; simp
    · rw [if_neg h, if_neg (by simpa using Ne.symm h)]
/-- One operation, run: whatever stands behind. -/
def OStep (P : Program) (o : Oper) (a : AAct) (m : Mem) (v : Value) (m' : Mem) : Prop :=
  ∀ (G : Ctx) (B : Prot) (w : World) (a' : Act) (r : Option Nat) (next : Act → World → Prop) (Q : Exit → Act → World → Prop), St G B a m a' w →
    (∀ G' w' v', From G B w G' w' → R G' B m' w' → VRel G' v v' → next (a'.put o.dst v') w') → o.uponIn (Wd r) 0 P a' next Q ((execOp a'.eval o).run P w)
section
variable {P : Program} {o : Oper} {a : AAct} {m m' : Mem} {v : Value}
theorem OStep.light (hv : alight P m a o.op = some v) : OStep P o a m v m := fun G B w a' r next Q hs hn => by
  obtain ⟨v', h1, h2⟩ := alight_run hs.side.pc hs.mem hs.act hv
  rw [h1]
  exact hn G w v' (From.refl ..) hs.mem h2
theorem OStep.heavy (hv : aheavy P m a o.op = some [(v, m')]) : OStep P o a m v m' := fun G B w a' r next Q hs hn => by
  obtain ⟨p, hp, G', v', w', res, h1, h2, h3, h4, h5, h6⟩ := aheavy_run hs.mem hs.act hv
  rw [List.mem_singleton] at hp; subst hp
  rw [h1]
  rcases h2 with rfl | ⟨rfl, rfl⟩
  · exact hn G' w' _ ⟨h3, h6⟩ h4 h5
  · exact hn G' w' _ ⟨h3, h6⟩ h4 h5
end
structure Pd where
  d : Tmp
  cs : List Value
  val : Nat → Value
/-- Some allocations have been made that the abstract memory has not yet. -/
inductive StP (lo : Nat) (G : Ctx) (w : World) : List Pd → Prot → AAct → Mem → Act → Prop
  | nil {B : Prot} {a : AAct} {m : Mem} {a' : Act} (h : St G B a m a' w) : StP lo G w [] B a m a'
  | cons {p : Pd} {pds : List Pd} {B : Prot} {b : Nat} {a : AAct} {m : Mem} {a' : Act} {u : Value} {z : Array Value} {t : TypeId} (h : StP lo G w pds (B.plus b) a m (a'.put (some p.d) u)) (hb : w.heap[b]? = some (.cells z t (0, 0))) (hB : B.free b) (hS : ¬ Side.prot b) (hlo : lo ≤ b)
      (hr : ∀ j q, G.f j = some q → q.1 ≠ b) (hl : p.cs.length = z.size) (hv : ∀ (i : Nat) (v : Value), p.cs[i]? = some v → v.oneCell' = true ∧ ∃ v', z[i]? = some v' ∧ VRel G v v') (hd : p.d < a'.tmps.size) (hp : ∀ (G' : Ctx) (k : Nat), G'.f k = some (b, 0) → G'.sz b = z.size → VRel G' (p.val k) (a'.tmps.getD p.d undef)) : StP lo G w (p :: pds) B a m a'
theorem Keep.less {B : Prot} {b : Nat} {w w' : World} (h : Keep (B.plus b) w w') : Keep B w w' := ⟨h.os, h.tape, h.output, h.size, fun k hk => h.block k (Or.inl hk)⟩
theorem put_comm (a : Act) {x : Option Tmp} {d : Tmp} (hx : x ≠ some d) (u v : Value) : (a.put (some d) u).put x v = (a.put x v).put (some d) u := by
  cases x with
  | none => rfl
  | some s =>
    have hne : s ≠ d := fun e => hx (by rw [e])
    show ({ a with tmps := (a.tmps.setIfInBounds d u).setIfInBounds s v } : Act) = { a with tmps := (a.tmps.setIfInBounds s v).setIfInBounds d u }
    rw [Array.setIfInBounds_comm u v (Ne.symm hne)]
theorem getD_put (a : Act) {x : Option Tmp} {d : Tmp} (hx : x ≠ some d) (v : Value) : (a.put x v).tmps.getD d undef = a.tmps.getD d undef := by
  cases x with
  | none => rfl
  | some s =>
    have hne : s ≠ d := fun e => hx (by rw [e])
    show (a.tmps.setIfInBounds s v).getD d undef = _
    simp [Array.getD_eq_getD_getElem?, Array.getElem?_setIfInBounds_ne hne]
theorem size_put (a : Act) (x : Option Tmp) (v : Value) : (a.put x v).tmps.size = a.tmps.size := by
  cases x with
  | none => rfl
  | some s => show (a.tmps.setIfInBounds s v).size = _; simp
theorem put_defers (a : Act) (x : Option Tmp) (v : Value) : (a.put x v).defers = a.defers := by cases x <;> rfl
theorem OStep.pend {P : Program} {ops : Array Oper} {o : Oper} {a : AAct} {m m' : Mem} {v : Value} (hs : OStep P o a m v m') (hsel : ∀ cs b, o.op ≠ .select cs b) (hdst : dstOk a o.dst = true) (lo : Nat) : ∀ (pds : List Pd), (∀ p ∈ pds, p.d ∉ o.looksAt ops ∧ o.dst ≠ some p.d) →
    ∀ (G : Ctx) (B : Prot) (w : World) (a' : Act) (r : Option Nat) (next : Act → World → Prop) (Q : Exit → Act → World → Prop), StP lo G w pds B a m a' →
    (∀ G' w' vv, From G B w G' w' → StP lo G' w' pds B (a.put o.dst v) m' (a'.put o.dst vv) → next (a'.put o.dst vv) w') → o.uponIn (Wd r) 0 P a' next Q ((execOp a'.eval o).run P w)
  | [], _, G, B, w, a', r, next, Q, hst, hn => by
    cases hst with
    | nil hst => exact hs G B w a' r next Q hst fun G' w' v' hf hR hv => hn G' w' v' hf (.nil (hst.put hf hR hv hdst))
  | p :: pds, hp, G, B, w, a', r, next, Q, hst, hn => by
    obtain ⟨hp1, hp2⟩ := hp p (by simp)
    cases hst with
    | cons h hb hB hS hlo hr hl hv hd hpt =>
      rename_i b u z t
      have ih := OStep.pend hs hsel hdst lo pds (fun q hq => hp q (by simp [hq])) G (B.plus b) w (a'.put (some p.d) u) r
        (fun act w1 => act.defers = a'.defers ∧ ∃ G', From G (B.plus b) w G' w1 ∧ StP lo G' w1 pds (B.plus b) (a.put o.dst v) m' act) (fun _ _ _ => False) h
        (fun G' w' vv hf hst' => ⟨by rw [put_defers, put_defers], G', hf, hst'⟩)
      rw [execOp_put (ops := ops) o hsel a' (some p.d) u (fun d hd => by cases hd; exact hp1)] at ih
      refine uponIn_act ?_ ?_ (fun _ _ _ h => h) (fun ⟨_, _, h⟩ => h) ih
      · rintro d w1 ⟨h1, _⟩
        rw [put_defers] at h1
        have := congrArg List.length h1
        simp [Act.put] at this
      · rintro vv w1 ⟨_, G', hf, hst'⟩
        rw [put_comm a' hp2] at hst'
        have hbw : b < w.heap.size := (Array.getElem?_eq_some_iff.1 hb).1
        refine hn G' w1 vv ⟨hf.grow, hf.below.less⟩ (.cons hst' (by rw [hf.below.block b (Or.inr rfl)]; exact hb) hB hS hlo (fun j q hq e => ?_) hl (fun i x hx => let ⟨h1, v', h2, h3⟩ := hv i x hx; ⟨h1, v', h2, h3.mono hf.ext⟩) (by rw [size_put]; exact hd) (fun G2 k e1 e2 => by rw [getD_put a' hp2]; exact hpt G2 k e1 e2))
        rcases hf.grow.rng j q hq with h1 | ⟨i, q', h1, h2⟩
        · omega
        · exact hr i q' h1 (h2.trans e)
/-- What was pending, is there. -/
theorem St.late {G : Ctx} {B : Prot} {w : World} {b : Nat} {a : AAct} {m : Mem} {a' : Act} {d : Tmp} {u : Value} {z : Array Value} {t : TypeId} {cs : List Value} {val : Nat → Value} (h : St G (B.plus b) a m (a'.put (some d) u) w) (hb : w.heap[b]? = some (.cells z t (0, 0))) (hB : B.free b) (hS : ¬ Side.prot b)
    (hr : ∀ j q, G.f j = some q → q.1 ≠ b) (hl : cs.length = z.size) (hv : ∀ (i : Nat) (v : Value), cs[i]? = some v → v.oneCell' = true ∧ ∃ v', z[i]? = some v' ∧ VRel G v v') (hd : d < a'.tmps.size) (hp : ∀ (G' : Ctx) (k : Nat), G'.f k = some (b, 0) → G'.sz b = z.size → VRel G' (val k) (a'.tmps.getD d undef)) :
    St (G.put m.nx b 0 z.size) B (a.put (some d) (val m.nx)) (m.put (.cells cs m.nx true)) a' w ∧ Ext G (G.put m.nx b 0 z.size) := by
  obtain ⟨hR, e⟩ := h.mem.late hb hB hr hl hv
  refine ⟨⟨hR, ⟨?_, fun i => ?_⟩, ?_, ?_⟩, e⟩
  · have := h.act.size; rw [size_put] at this; cases a; exact this
  · rw [look_put']
    by_cases hi : d = i
    · subst hi
      rw [if_pos rfl]
      exact hp _ m.nx (if_pos rfl) (if_pos rfl)
    · rw [if_neg (by simpa using hi)]
      have := (h.act.rel i).mono e
      rwa [getD_put a' (x := some d) (d := i) (by simpa using hi)] at this
  · have := h.dfr.mono e
    rw [put_defers] at this; exact this
  · refine ⟨h.side.fact, fun k hk => ?_, fun k p hk => e.f _ _ (h.side.pin k p hk), h.side.pc.mono e, fun k v hk => by rw [e.sym]; exact h.side.sym k v hk⟩
    rcases h.side.prot k hk with h1 | h1
    · exact h1
    · subst h1; exact absurd hk hS
theorem From.late {G0 G : Ctx} {B : Prot} {w0 w : World} {k b n : Nat} (e : Ext G (G.put k b 0 n)) (h0 : w0.heap.size ≤ b) (hf : From G0 B w0 G w) : From G0 B w0 (G.put k b 0 n) w :=
  ⟨⟨hf.ext.trans e, fun j q hq => by
    simp only [Ctx.put] at hq
    split at hq
    · cases hq; exact .inl h0
    · exact hf.grow.rng j q hq⟩, hf.below⟩
end Go.Eng

/- An allocation that comes early. -/
namespace Go.Eng
open Go.RowKit
variable [Side]
theorem ORel.more {G : Ctx} {B : Prot} {m : Mem} {k b d x : Nat} {w : World} {o : AObj} (hx : b ≠ x) (h : ORel G B m k b d w o) : ORel G (B.plus x) m k b d w o := by
  have fr : B.free b → (B.plus x).free b := fun h hk => hk.elim h hx
  cases o <;> simp only [ORel] at h ⊢
  case cells cs g wr =>
    obtain ⟨c, t, fz, h1, h2, h3, h4⟩ := h
    exact ⟨c, t, fz, h1, h2, fun hw => ⟨fr (h3 hw).1, (h3 hw).2⟩, h4⟩
  case map es clock wr => exact ⟨h.1, fun hw => fr (h.2.1 hw), h.2.2⟩
  case iter mp since seen stepped => exact ⟨h.1, fr h.2.1, h.2.2⟩
  case loop st pend t n params assign body dfr => exact ⟨h.1, fr h.2.1, h.2.2⟩
  case marks => exact ⟨h.1, fr h.2.1, h.2.2⟩
  case gone => exact ⟨h.1, fr h.2⟩
theorem R.more {G : Ctx} {B : Prot} {m : Mem} {w : World} (h : R G B m w) (o : Obj) : R G (B.plus w.heap.size) m (w.alloc o) :=
  ⟨fun k b d hk => by have := h.dom k b d hk; simp; omega, fun k b d hk => let ⟨x, hx, r⟩ := h.obj k b d hk; ⟨x, hx, (r.world (Below.heap_alloc w o b (h.dom k b d hk))).more (Nat.ne_of_lt (h.dom k b d hk))⟩, h.alias, h.top, h.fresh,
    fun k hk => by
      rcases hk with hk | hk
      · have := h.low k hk; simp; omega
      · subst hk; simp⟩
theorem Prot.swap (B : Prot) (x y : Nat) : (B.plus x).plus y = (B.plus y).plus x := by
  show Prot.mk _ = Prot.mk _
  congr 1
  funext k
  exact propext ⟨fun h => h.elim (fun h => h.elim (fun h => .inl (.inl h)) .inr) (fun h => .inl (.inr h)), fun h => h.elim (fun h => h.elim (fun h => .inl (.inl h)) .inr) (fun h => .inl (.inr h))⟩
theorem StP.more {lo : Nat} {G : Ctx} {w : World} {pds : List Pd} {B : Prot} {a : AAct} {m : Mem} {a' : Act} (h : StP lo G w pds B a m a') (o : Obj) : StP lo G (w.alloc o) pds (B.plus w.heap.size) a m a' := by
  induction h with
  | nil h =>
    refine .nil ⟨h.mem.more o, h.act, h.dfr, ⟨?_, fun k hk => .inl (h.side.prot k hk), h.side.pin, h.side.pc, h.side.sym⟩⟩
    exact Side.keep (w := w) (w' := w.alloc o) ⟨rfl, rfl, rfl, by simp, fun k hk => Below.heap_alloc w o k (h.mem.low k (h.side.prot k hk))⟩ h.side.fact
  | cons h hb hB hS hlo hr hl hv hd hp ih =>
    have hlt := (Array.getElem?_eq_some_iff.1 hb).1
    refine .cons (by rw [Prot.swap]; exact ih) (by rw [Below.heap_alloc w o _ hlt]; exact hb) (fun hk => hk.elim hB (fun e => by omega)) hS hlo hr hl hv hd hp
theorem put_back (a : Act) {d : Tmp} (hd : d < a.tmps.size) (v : Value) : (a.put (some d) v).put (some d) (a.tmps.getD d undef) = a := by
  show ({ a with tmps := (a.tmps.setIfInBounds d v).setIfInBounds d (a.tmps.getD d undef) } : Act) = a
  have : (a.tmps.setIfInBounds d v).setIfInBounds d (a.tmps.getD d undef) = a.tmps := by
    apply Array.ext (by simp)
    intro i h1 h2
    by_cases e : d = i
    · subst e; simp [Array.getD_eq_getD_getElem?, hd]
    · rw [Array.getElem_setIfInBounds_ne (by simpa using h2) e, Array.getElem_setIfInBounds_ne h2 e]
  rw [this]
/-- The state under what is pending. -/
theorem StP.inner {lo : Nat} {G : Ctx} {w : World} {pds : List Pd} {B : Prot} {a : AAct} {m : Mem} {a' : Act} (h : StP lo G w pds B a m a') :
    ∃ B' a'', St G B' a m a'' w ∧ (∀ k, B.p k → B'.p k) ∧ a''.tmps.size = a'.tmps.size ∧ ∀ (ops : Array Oper) (o : Oper), (∀ p ∈ pds, p.d ∉ o.looksAt ops) →
      Region.wanted o (yielded ops a''.tmps) = Region.wanted o (yielded ops a'.tmps) ∧ ((∀ cs b, o.op ≠ .select cs b) → execOp a''.eval o = execOp a'.eval o) := by
  induction h with
  | nil h => exact ⟨_, _, h, fun _ h => h, rfl, fun _ _ _ => ⟨rfl, fun _ => rfl⟩⟩
  | cons h hb hB hS hlo hr hl hv hd hp ih =>
    rename_i p pds B b a m a' u z t
    obtain ⟨B', a'', h1, h2, h3, h4⟩ := ih
    refine ⟨B', a'', h1, fun k hk => h2 k (.inl hk), by rw [h3, size_put], fun ops o ho => ?_⟩
    obtain ⟨g1, g2⟩ := h4 ops o fun q hq => ho q (by simp [hq])
    have hn : ∀ d, some p.d = some d → d ∉ o.looksAt ops := fun d hd => by cases hd; exact ho p (by simp)
    refine ⟨by rw [g1, wanted_put (ops := ops) o a' (some p.d) u hn], fun hs => by rw [g2 hs, execOp_put (ops := ops) o hs a' (some p.d) u hn]⟩
/-- A slot more. -/
theorem StP.put {lo : Nat} {G : Ctx} {w : World} {pds : List Pd} {B : Prot} {a : AAct} {m : Mem} {a' : Act} (h : StP lo G w pds B a m a') {d : Option Tmp} (hd : dstOk a d = true) (hn : ∀ p ∈ pds, d ≠ some p.d) {v v' : Value} (hv : VRel G v v') : StP lo G w pds B (a.put d v) m (a'.put d v') := by
  induction h with
  | nil h => exact .nil (h.put (From.refl ..) h.mem hv hd)
  | cons h hb hB hS hlo hr hl hv' hd' hp ih =>
    rename_i p pds B b a m a' u z t
    have hne : d ≠ some p.d := hn p (by simp)
    have := ih hd (fun q hq => hn q (by simp [hq])) 
    rw [put_comm a' hne] at this
    exact .cons this hb hB hS hlo hr hl hv' (by rw [size_put]; exact hd') (fun G2 k e1 e2 => by rw [getD_put a' hne]; exact hp G2 k e1 e2)
/-- Really there, abstractly pending. -/
theorem StP.early {lo : Nat} {G : Ctx} {w : World} {pds : List Pd} {B : Prot} {a : AAct} {m : Mem} {a' : Act} (h : StP lo G w pds B a m a') (hlo : lo ≤ w.heap.size) {d : Tmp} (hd : d < a'.tmps.size) {z : Array Value} {t : TypeId} {cs : List Value} {val : Nat → Value} {v' : Value} (hl : cs.length = z.size)
    (hv : ∀ (i : Nat) (v : Value), cs[i]? = some v → v.oneCell' = true ∧ ∃ v', z[i]? = some v' ∧ VRel G v v')
    (hval : ∀ (G' : Ctx) (k : Nat), G'.f k = some (w.heap.size, 0) → G'.sz w.heap.size = z.size → VRel G' (val k) v') : StP lo G (w.alloc (.cells z t)) (⟨d, cs, val⟩ :: pds) B a m (a'.put (some d) v') := by
  obtain ⟨B', a'', hst, hB', _, _⟩ := h.inner
  have hbase := hst.mem.base
  refine .cons (b := w.heap.size) (u := a'.tmps.getD d undef) (z := z) (t := t) ?_ (show (w.heap.push _)[w.heap.size]? = _ from Array.getElem?_push_size) (fun hk => hbase (hB' _ hk)) (fun hk => hbase (hst.side.prot _ hk)) hlo (fun j q hq e => by have := hst.mem.dom j q.1 q.2 hq; omega) hl hv (by rw [size_put]; exact hd) ?_
  · rw [put_back a' hd]; exact h.more _
  · intro G' k e1 e2
    have : (a'.put (some d) v').tmps.getD d undef = v' := by
      show (a'.tmps.setIfInBounds d _).getD d undef = _
      simp [Array.getD_eq_getD_getElem?, hd]
    rw [this]; exact hval G' k e1 e2
/-- The one that was made last is there. -/
theorem StP.head {lo : Nat} {G : Ctx} {w : World} {p : Pd} : ∀ {l : List Pd} {B : Prot} {a : AAct} {m : Mem} {a' : Act} {b : Nat} {u : Value} {z : Array Value} {t : TypeId} (h : StP lo G w l (B.plus b) a m (a'.put (some p.d) u)) (hb : w.heap[b]? = some (.cells z t (0, 0))) (hB : B.free b) (hS : ¬ Side.prot b)
    (hr : ∀ j q, G.f j = some q → q.1 ≠ b) (hl : p.cs.length = z.size) (hv : ∀ (i : Nat) (v : Value), p.cs[i]? = some v → v.oneCell' = true ∧ ∃ v', z[i]? = some v' ∧ VRel G v v') (hd : p.d < a'.tmps.size) (hp : ∀ (G' : Ctx) (k : Nat), G'.f k = some (b, 0) → G'.sz b = z.size → VRel G' (p.val k) (a'.tmps.getD p.d undef))
    (hne : ∀ q ∈ l, q.d ≠ p.d), StP lo (G.put m.nx b 0 z.size) w l B (a.put (some p.d) (p.val m.nx)) (m.put (.cells p.cs m.nx true)) a' ∧ Ext G (G.put m.nx b 0 z.size)
  | [], B, a, m, a', b, u, z, t, h, hb, hB, hS, hr, hl, hv, hd, hp, hne => by
    cases h with
    | nil h =>
      obtain ⟨h1, h2⟩ := St.late h hb hB hS hr hl hv hd hp
      exact ⟨.nil h1, h2⟩
  | q :: l, B, a, m, a', b, u, z, t, h, hb, hB, hS, hr, hl, hv, hd, hp, hne => by
    cases h with
    | cons h' hb' hB' hS' hlo' hr' hl' hv' hd' hp' =>
      rename_i b' u' z' t'
      have hqp : (some q.d : Option Tmp) ≠ some p.d := fun e => hne q (by simp) (Option.some.inj e)
      rw [Prot.swap, put_comm a' hqp] at h'
      have hbb : b ≠ b' := fun e => hB' (.inr e.symm)
      obtain ⟨h1, e⟩ := StP.head (B := B.plus b') (a' := a'.put (some q.d) u') h' hb (fun hk => hk.elim hB hbb) hS hr hl hv (by rw [size_put]; exact hd) (fun G' k e1 e2 => by rw [getD_put a' hqp]; exact hp G' k e1 e2) (fun x hx => hne x (by simp [hx]))
      have hpq : (some p.d : Option Tmp) ≠ some q.d := fun e => hqp e.symm
      refine ⟨.cons h1 hb' (fun hk => hB' (.inl hk)) hS' hlo' (fun j x hx => ?_) hl' (fun i v hi => let ⟨g1, v', g2, g3⟩ := hv' i v hi; ⟨g1, v', g2, g3.mono e⟩) (by rw [size_put] at hd'; exact hd') (fun G' k e1 e2 => by rw [← getD_put a' hpq u]; exact hp' G' k e1 e2), e⟩
      simp only [Ctx.put] at hx
      split at hx
      · cases hx; exact hbb
      · exact hr' j x hx
/-- One that is pending is there. -/
theorem StP.reg {lo : Nat} {G : Ctx} {w : World} {p : Pd} {l2 : List Pd} : ∀ {l1 : List Pd} {B : Prot} {a : AAct} {m : Mem} {a' : Act}, StP lo G w (l1 ++ p :: l2) B a m a' → (∀ q ∈ l1 ++ l2, q.d ≠ p.d) →
    ∃ b n, lo ≤ b ∧ B.free b ∧ StP lo (G.put m.nx b 0 n) w (l1 ++ l2) B (a.put (some p.d) (p.val m.nx)) (m.put (.cells p.cs m.nx true)) a' ∧ Ext G (G.put m.nx b 0 n)
  | [], B, a, m, a', h, hne => by
    cases h with
    | cons h' hb hB hS hlo hr hl hv hd hp =>
      rename_i b u z t
      obtain ⟨h1, h2⟩ := StP.head h' hb hB hS hr hl hv hd hp (fun q hq => hne q (by simpa using hq))
      exact ⟨b, z.size, hlo, hB, h1, h2⟩
  | q :: l1, B, a, m, a', h, hne => by
    cases h with
    | cons h' hb hB hS hlo hr hl hv hd hp =>
      rename_i b' u z t
      obtain ⟨b, n, g1, g2, g3, g4⟩ := StP.reg h' (fun x hx => hne x (by simp at hx ⊢; exact .inr hx))
      have hbb : b ≠ b' := fun e => g2 (.inr e)
      refine ⟨b, n, g1, fun hk => g2 (.inl hk), .cons g3 hb hB hS hlo (fun j x hx => ?_) hl (fun i v hi => let ⟨q1, v', q2, q3⟩ := hv i v hi; ⟨q1, v', q2, q3.mono g4⟩) hd hp, g4⟩
      simp only [Ctx.put] at hx
      split at hx
      · cases hx; exact hbb
      · exact hr j x hx
end Go.Eng

/- Operations one behind the other, while allocations are pending. -/
namespace Go.Eng
open Go.RowKit
variable [Side]
def Goes (P : Program) (ops : Array Oper) (l : List Nat) (pds : List Pd) (b : AAct) (m : Mem) (S : AAct → Mem → Prop) : Prop :=
  ∀ (G0 : Ctx) (B : Prot) (w0 : World) (G : Ctx) (w : World) (a' : Act) (r : Option Nat) (Q : Exit → Act → World → Prop), From G0 B w0 G w → StP w0.heap.size G w pds B b m a' →
    (∀ aa mm a1 w1 G', S aa mm → From G0 B w0 G' w1 → St G' B aa mm a1 w1 → Q .normal a1 w1) → wpOpsIn (Wd r) 0 P ops Q l a' w
section
variable {P : Program} {ops : Array Oper} {i : Nat} {l : List Nat} {pds : List Pd} {a : AAct} {m : Mem} {S : AAct → Mem → Prop} {o : Oper}
theorem AOps.of_goes (h : Goes P ops l [] a m S) : AOps P ops l a m S := fun G B w a' r Q hs hq => h G B w G w a' r Q (From.refl ..) (.nil hs) hq
theorem Goes.nil {b : AAct} (e : AEq a b) (h : S b m) : Goes P ops [] [] a m S := fun G0 B w0 G w a' r Q hf hs hq => by
  cases hs with
  | nil hs => exact AOps.nil' (P := P) (ops := ops) (S := S) e h G B w a' r Q hs fun aa mm a1 w1 G' hS hf' => hq aa mm a1 w1 G' hS (hf.trans hf')
theorem Goes.skip (ho : ops[i]? = some o) (hw : askip ops a o = true) (hd : dstOk a o.dst = true) (hp : ∀ p ∈ pds, p.d ∉ o.looksAt ops ∧ o.dst ≠ some p.d) (h : Goes P ops l pds (a.put o.dst undef) m S) : Goes P ops (i :: l) pds a m S := fun G0 B w0 G w a' r Q hf hs hq => by
  simp only [wpOpsIn, ho]
  obtain ⟨B', a'', h1, h2, h3, h4⟩ := hs.inner
  have hw' : Region.wanted o (yielded ops a'.tmps) = false := by
    rw [← (h4 ops o fun p hp' => (hp p hp').1).1]; exact skip_of h1.act hw
  rw [if_neg (by simp [hw'])]
  exact ⟨fun _ _ => trivial, h G0 B w0 G w _ r Q hf (hs.put hd (fun p hp' => (hp p hp').2) (VRel.undef G)) hq⟩
theorem Goes.step {v : Value} {m' : Mem} (ho : ops[i]? = some o) (hw : awanted ops a o = true) (hnd : ∀ c, o.op ≠ .defer c) (hsel : ∀ cs b, o.op ≠ .select cs b) (hd : dstOk a o.dst = true) (hp : ∀ p ∈ pds, p.d ∉ o.looksAt ops ∧ o.dst ≠ some p.d)
    (hs : OStep P o a m v m') (h : Goes P ops l pds (a.put o.dst v) m' S) : Goes P ops (i :: l) pds a m S := fun G0 B w0 G w a' r Q hf hst hq => by
  simp only [wpOpsIn, ho]
  obtain ⟨B', a'', h1, h2, h3, h4⟩ := hst.inner
  have hw' : Region.wanted o (yielded ops a'.tmps) = true := by
    rw [← (h4 ops o fun p hp' => (hp p hp').1).1]; exact wanted_of h1.act hw
  rw [if_pos hw']
  refine ⟨fun _ _ => trivial, ?_⟩
  rw [Oper.semAt_eq _ _ _ hnd]
  exact OStep.pend hs hsel hd w0.heap.size pds hp G B w a' r _ Q hst fun G' w' vv hf' hst' => h G0 B w0 G' w' _ r Q (hf.trans hf') hst' hq
/-- An allocation, whatever is to come before it abstractly. -/
theorem Goes.early {e : TypeId} {z : Value} {d : Tmp} (ho : ops[i]? = some o) (hop : o.op = .alloc e) (hz : azero P e = some z) (hone : oneCells z.cells.toList = true) (hdst : o.dst = some d) (hw : awanted ops a o = true) (hd : dstOk a o.dst = true) (hp : ∀ p ∈ pds, p.d ∉ o.looksAt ops ∧ o.dst ≠ some p.d)
    (h : Goes P ops l (⟨d, z.cells.toList, fun k => .pointer (some ⟨k, 0, none⟩)⟩ :: pds) a m S) : Goes P ops (i :: l) pds a m S := fun G0 B w0 G w a' r Q hf hst hq => by
  simp only [wpOpsIn, ho]
  obtain ⟨B', a'', h1, h2, h3, h4⟩ := hst.inner
  have hw' : Region.wanted o (yielded ops a'.tmps) = true := by
    rw [← (h4 ops o fun p hp' => (hp p hp').1).1]; exact wanted_of h1.act hw
  rw [if_pos hw']
  refine ⟨fun _ _ => trivial, ?_⟩
  rw [Oper.semAt_eq _ _ _ (fun c hc => by rw [hop] at hc; cases hc)]
  obtain ⟨hzr, hzz⟩ := azero_run hz w G
  have hrun : (execOp a'.eval o).run P w = .ok (.value (.pointer (some ⟨w.heap.size, 0, none⟩))) (w.alloc (.cells z.cells e)) := by
    simp [execOp, hop, Instr.alloc, Sem.run_bind, hzr, Result.andThen_ok, newVar, newRow]
  rw [hrun]
  have hbase := h1.mem.base
  have hlt : d < a'.tmps.size := by
    rw [hdst] at hd
    have h5 : d < a.n := by simpa [dstOk] using hd
    rw [← h3, h1.act.size]; exact h5
  have hlow : w0.heap.size ≤ w.heap.size := hf.below.size
  show wpOpsIn (Wd r) 0 P ops Q l (a'.put o.dst _) _
  rw [hdst]
  refine h G0 B w0 G (w.alloc (.cells z.cells e)) _ r Q ⟨⟨hf.ext, hf.grow.rng⟩, hf.below.alloc (fun hk => hbase (h2 _ hk)) _⟩ (hst.early hlow hlt ?_ ?_ ?_) hq
  · simp
  · intro j v hj
    have hj' : z.cells[j]? = some v := by simpa using hj
    exact ⟨oneCells_at hone hj, v, hj', hzz.cells.get j v v hj' hj'⟩
  · intro G' k e1 e2
    exact .ptr (off := 0) e1
/-- What is pending, is there. -/
theorem Goes.reg {l1 l2 : List Pd} {p : Pd} (hne : ∀ q ∈ l1 ++ l2, q.d ≠ p.d) (h : Goes P ops l (l1 ++ l2) (a.put (some p.d) (p.val m.nx)) (m.put (.cells p.cs m.nx true)) S) : Goes P ops l (l1 ++ p :: l2) a m S := fun G0 B w0 G w a' r Q hf hst hq => by
  obtain ⟨b, n, g1, g2, g3, g4⟩ := hst.reg hne
  exact h G0 B w0 _ w a' r Q (From.late g4 g1 hf) g3 hq
theorem OStep.call {c : Call} {fo : Operand} {f : FuncId} {caps : Array Value} {vs : List Value} {v : Value} {m' : Mem} (hop : o.op = .call c) (hcal : c.callee = .value fo) (hf : a.ev fo = some (.func (.func f) #[] caps)) (hvs : a.evs c.args.toList = some vs)
    (hT : AInv P f (vs ++ caps.toList) m fun v1 m1 => v1 = v ∧ m1 = m') : OStep P o a m v m' := fun G B w a' r next Q hs hn => by
  have e1 := hs.act.ev hf
  have e2 := hs.act.evs hvs
  generalize hfo : a'.eval fo = fv at e1
  cases e1 with
  | func _ _ caps' hsz hcv =>
    have hrun : (execOp a'.eval o).run P w = (callFunc f (c.args.toList.map a'.eval ++ caps'.toList).toArray).run P w := by
      have : (c.args.toList.map a'.eval ++ caps'.toList).toArray = c.args.map a'.eval ++ caps' := by
        apply Array.ext'; simp
      rw [this]
      simp only [execOp, hop, resolve, hcal, hfo, Deferred.ofValue, Sem.run_bind, Sem.run_pure, Result.andThen_ok, invoke]
      simp
    rw [hrun]
    refine hT G B w _ r o a' next Q hs.mem hs.side (VL.append e2 (VL.of (by simp [hsz]) fun i x y hx hy => hcv i x y (by simpa using hx) (by simpa using hy))) ?_
    rintro v' v1 G' m1 w' ⟨rfl, rfl⟩ hf' hR' hv'
    exact hn G' w' v' hf' hR' hv'
theorem OStep.yield {c : Call} {fo : Operand} {k : Nat} {vs : List Value} {v : Value} {m' : Mem} (hop : o.op = .call c) (hcal : c.callee = .value fo) (hf : a.ev fo = some (.func (.yield k) #[] #[])) (hvs : a.evs c.args.toList = some vs)
    (hT : ARound P k vs m fun v1 m1 => v1 = v ∧ m1 = m') : OStep P o a m v m' := fun G B w a' r next Q hs hn => by
  have e1 := hs.act.ev hf
  have e2 := hs.act.evs hvs
  generalize hfo : a'.eval fo = fv at e1
  cases e1 with
  | yield hk =>
    rename_i b
    obtain ⟨fn, tmps, assign, body, hy, hround⟩ := hT G B w b _ hs.mem hs.side hk e2
    have hrun : (execOp a'.eval o).run P w = .ok (.round b fn tmps assign body) w := by
      have : (c.args.toList.map a'.eval).toArray = c.args.map a'.eval := by rw [← Array.toList_map]
      rw [this] at hy
      simp only [execOp, hop, resolve, hcal, hfo, Deferred.ofValue, Sem.run_bind, Sem.run_pure, Result.andThen_ok, invoke]
      simpa using hy
    rw [hrun]
    refine ⟨fun hx => (by simp [Wd, Fence.wide] at hx), ?_⟩
    have h1 : RoundIn (Wd r) (0 - 1) P b fn tmps assign body w _ := hround
    refine RoundIn.mono h1 ?_
    rintro e w' ⟨v', v1, G', m1, rfl, ⟨rfl, rfl⟩, hf', hR', hv'⟩
    exact hn G' w' v' hf' hR' hv'
theorem OStep.det {v : Value} {m' : Mem} (hs : DetStep P o.op a m v m') : OStep P o a m v m' := by
  rcases hs with ⟨h0, h1⟩ | ⟨c, fo, f, caps, vs, h0, h1, h2, h3, h4⟩ | ⟨c, fo, k, vs, h0, h1, h2, h3, h4⟩
  · exact .heavy h1
  · exact .call h0 h1 h2 h3 h4
  · exact .yield h0 h1 h2 h3 h4
end
end Go.Eng

/- A region that draws its order: the theorem. -/
namespace Go.Eng
open Go.RowKit
variable [Side]

/-- How many of the first n have a property. -/
def cnt (p : Nat → Bool) : Nat → Nat
  | 0 => 0
  | n + 1 => cnt p n + if p n then 1 else 0
theorem cnt_mono {p q : Nat → Bool} : ∀ (n : Nat), (∀ i, i < n → p i = true → q i = true) → cnt p n ≤ cnt q n
  | 0, _ => Nat.le_refl _
  | n + 1, h => by
    have ih := cnt_mono n fun i hi => h i (by omega)
    simp only [cnt]
    cases hp : p n with
    | false => simp; omega
    | true => rw [h n (by omega) hp]; simp; omega
theorem cnt_congr {p q : Nat → Bool} : ∀ (n : Nat), (∀ i, i < n → p i = q i) → cnt p n = cnt q n
  | 0, _ => rfl
  | n + 1, h => by simp only [cnt]; rw [cnt_congr n fun i hi => h i (by omega), h n (by omega)]
theorem cnt_add {p q : Nat → Bool} (k : Nat) : ∀ (n : Nat), k < n → p k = false → (∀ i, i < n → q i = if i = k then true else p i) → cnt q n = cnt p n + 1
  | 0, hk, _, _ => by omega
  | n + 1, hk, hp, h => by
    simp only [cnt]
    by_cases hkn : k = n
    · subst hkn
      rw [h k (by omega), if_pos rfl, hp, cnt_congr k fun i hi => by rw [h i (by omega), if_neg (by omega)]]
      simp
    · rw [cnt_add k n (by omega) hp fun i hi => h i (by omega), h n (by omega), if_neg (Ne.symm hkn)]
      omega

section
variable {P : Program} {ops : Array Oper}
def dstOf (ops : Array Oper) (i : Nat) : Option Tmp := (ops[i]?).bind (·.dst)
/-- What a slot holds when the operations of L are done. -/
def lookL (ops : Array Oper) (a : AAct) (V : Nat → Value) (L : Nat → Bool) (s : Nat) : Value :=
  match (List.range ops.size).find? fun i => dstOf ops i == some s with
  | some i => if L i then V i else a.look s
  | none => a.look s
/-- What a pending allocation is to its operation. -/
def Pof (P : Program) (ops : Array Oper) (j : Nat) (p : Pd) : Prop := ∃ o e z, ops[j]? = some o ∧ o.op = .alloc e ∧ azero P e = some z ∧ oneCells z.cells.toList = true ∧ o.dst = some p.d ∧ p.cs = z.cells.toList ∧ p.val = fun k => .pointer (some ⟨k, 0, none⟩)
/-- How many heavy ones come ahead. -/
def hv (kd : Nat → Nat) (n i : Nat) : Nat := cnt (fun j => kd j == 2 && decide (j < i)) n
def befA (kd : Nat → Nat) (fl : Nat → Bool) (bef : Nat → Nat → Bool) (i j : Nat) : Bool := bef i j && (!fl j || (List.range j).all fun k => kd k != 2 || bef i k)
structure Facts (P : Program) (ops : Array Oper) (a : AAct) (V : Nat → Value) (kd : Nat → Nat) (fl : Nat → Bool) (Ms : Nat → Mem) (Ac : Nat → AAct) (bef : Nat → Nat → Bool) : Prop where
  reach : ∀ i j, bef i j = true → Reach ops i j
  back : ∀ i o e, ops[i]? = some o → e ∈ o.after → Region.binds .any e = true → e.on < i
  dsts : ∀ i j s, dstOf ops i = some s → dstOf ops j = some s → i = j
  names : ∀ i o s j, ops[i]? = some o → s ∈ o.looksAt ops → dstOf ops j = some s → j ≠ i → (j < i ∧ bef i j = true) ∨ (i < j ∧ bef j i = true)
  nosel : ∀ (i : Nat) (o : Oper), ops[i]? = some o → ∀ cs b, o.op ≠ .select cs b
  chain : ∀ i j, i < j → j < ops.size → kd i = 2 → kd j = 2 → fl j = false → bef j i = true
  flk : ∀ j, fl j = true → kd j = 2
  late : ∀ (i : Nat) (o : Oper) (s : Tmp) (j : Nat), ops[i]? = some o → s ∈ o.looksAt ops → dstOf ops j = some s → fl j = true → j < i → ∀ k, k < j → kd k = 2 → bef i k = true
  ac0 : Ac 0 = a
  acs : ∀ i o, ops[i]? = some o → Ac (i + 1) = (Ac i).put o.dst (V i) ∧ dstOk a o.dst = true
  s0 : ∀ i o, ops[i]? = some o → kd i = 0 → askip ops (Ac i) o = true ∧ V i = undef
  s1 : ∀ i o, ops[i]? = some o → kd i = 1 → awanted ops (Ac i) o = true ∧ (∀ c, o.op ≠ .defer c) ∧
    ∀ h, cnt (fun j => kd j == 2 && befA kd fl bef i j) ops.size ≤ h → h ≤ cnt (fun j => kd j == 2 && !bef j i) ops.size → alight P (Ms h) (Ac i) o.op = some (V i)
  s2 : ∀ i o, ops[i]? = some o → kd i = 2 → awanted ops (Ac i) o = true ∧ (∀ c, o.op ≠ .defer c) ∧ DetStep P o.op (Ac i) (Ms (hv kd ops.size i)) (V i) (Ms (hv kd ops.size i + 1))
  sF : ∀ (i : Nat) (o : Oper), ops[i]? = some o → fl i = true → ∃ e z d, o.op = .alloc e ∧ azero P e = some z ∧ oneCells z.cells.toList = true ∧ o.dst = some d ∧ V i = .pointer (some ⟨(Ms (hv kd ops.size i)).nx, 0, none⟩) ∧ Ms (hv kd ops.size i + 1) = (Ms (hv kd ops.size i)).put (.cells z.cells.toList (Ms (hv kd ops.size i)).nx true)
  kinds : ∀ i, i < ops.size → kd i = 0 ∨ kd i = 1 ∨ kd i = 2
variable {a : AAct} {V : Nat → Value} {kd : Nat → Nat} {fl : Nat → Bool} {Ms : Nat → Mem} {Ac : Nat → AAct} {bef : Nat → Nat → Bool}
theorem dstOf_lt {i : Nat} {s : Tmp} (h : dstOf ops i = some s) : i < ops.size := by
  unfold dstOf at h
  rcases Nat.lt_or_ge i ops.size with h' | h'
  · exact h'
  · rw [Array.getElem?_eq_none h'] at h; cases h
theorem lookL_at (F : Facts P ops a V kd fl Ms Ac bef) {L : Nat → Bool} {i : Nat} {s : Tmp} (h : dstOf ops i = some s) : lookL ops a V L s = if L i then V i else a.look s := by
  unfold lookL
  cases hf : (List.range ops.size).find? fun i => dstOf ops i == some s with
  | none =>
    have := List.find?_eq_none.1 hf i (List.mem_range.2 (dstOf_lt h))
    simp [h] at this
  | some j =>
    have h2 := List.find?_some hf
    have : dstOf ops j = some s := by simpa using h2
    rw [F.dsts j i s this h]
theorem lookL_none {L : Nat → Bool} {s : Tmp} (h : ∀ i, dstOf ops i ≠ some s) : lookL ops a V L s = a.look s := by
  unfold lookL
  cases hf : (List.range ops.size).find? fun i => dstOf ops i == some s with
  | none => rfl
  | some j =>
    have h2 := List.find?_some hf
    exact absurd (by simpa using h2) (h j)
/-- Taking one more. -/
theorem lookL_put (F : Facts P ops a V kd fl Ms Ac bef) {L L' : Nat → Bool} {i : Nat} {o : Oper} (ho : ops[i]? = some o) (hL : ∀ j, j < ops.size → L' j = if j = i then true else L j) {b : AAct} (hb : ∀ s, b.look s = lookL ops a V L s) (s : Nat) :
    (b.put o.dst (V i)).look s = lookL ops a V L' s := by
  rw [look_put']
  have hd : dstOf ops i = o.dst := by simp [dstOf, ho]
  have hi : i < ops.size := (Array.getElem?_eq_some_iff.1 ho).1
  split
  · rename_i h
    rw [lookL_at F (i := i) (by rw [hd]; exact h), hL i hi, if_pos rfl]; rfl
  · rename_i h
    rw [hb]
    by_cases hx : ∃ j, dstOf ops j = some s
    · obtain ⟨j, hj⟩ := hx
      have hji : j ≠ i := fun e => by subst e; rw [hd] at hj; exact h hj
      rw [lookL_at F hj, lookL_at F hj, hL j (dstOf_lt hj), if_neg hji]
    · rw [lookL_none fun j hj => hx ⟨j, hj⟩, lookL_none fun j hj => hx ⟨j, hj⟩]
theorem ac_look (F : Facts P ops a V kd fl Ms Ac bef) : ∀ i, i ≤ ops.size → (Ac i).n = a.n ∧ (Ac i).d = a.d ∧ ∀ s, (Ac i).look s = lookL ops a V (fun j => decide (j < i)) s := by
  intro i
  induction i with
  | zero =>
    intro _
    rw [F.ac0]
    refine ⟨rfl, rfl, fun s => ?_⟩
    unfold lookL
    split <;> simp
  | succ i ih =>
    intro hi
    obtain ⟨h1, h2, h3⟩ := ih (by omega)
    obtain ⟨o, ho⟩ : ∃ o, ops[i]? = some o := ⟨_, Array.getElem?_eq_getElem (by omega)⟩
    rw [(F.acs i o ho).1]
    refine ⟨by cases o.dst <;> exact h1, by cases o.dst <;> exact h2, fun s => lookL_put F ho (fun j hj => ?_) h3 s⟩
    by_cases hji : j = i
    · subst hji; simp
    · rw [if_neg hji]; simp; omega
/-- Between two operations, those of L being done, those of A abstractly. -/
structure Mid (P : Program) (ops : Array Oper) (a : AAct) (V : Nat → Value) (kd : Nat → Nat) (fl : Nat → Bool) (Ms : Nat → Mem) (L A : Nat → Bool) (pds : List Pd) (b : AAct) (m : Mem) : Prop where
  n : b.n = a.n
  d : b.d = a.d
  look : ∀ s, b.look s = lookL ops a V A s
  mem : m = Ms (cnt (fun j => kd j == 2 && A j) ops.size)
  closed : Closed ops L
  lt : ∀ i, L i = true → i < ops.size
  sub : ∀ i, A i = true → L i = true
  rest : ∀ i, L i = true → A i = false → fl i = true
  pre : ∀ k j, kd j = 2 → A j = true → k < j → kd k = 2 → A k = true
  pd : ∀ j, L j = true → A j = false → ∃ p ∈ pds, Pof P ops j p
  dp : ∀ p ∈ pds, ∃ j, L j = true ∧ A j = false ∧ Pof P ops j p
  apart : pds.Pairwise fun p q => p.d ≠ q.d
theorem Pof.dst {j : Nat} {p : Pd} (h : Pof P ops j p) : dstOf ops j = some p.d := by
  obtain ⟨o, e, z, h1, _, _, _, h2, _⟩ := h
  simp [dstOf, h1, h2]
def Full (kd : Nat → Nat) (L A : Nat → Bool) : Prop := ∀ j, kd j = 2 → (∀ k, k ≤ j → kd k = 2 → L k = true) → A j = true
theorem least_nat {p : Nat → Prop} {n : Nat} (h : p n) : ∃ j, p j ∧ ∀ k, k < j → ¬ p k := by
  induction n using Nat.strongRecOn with
  | ind n ih =>
    by_cases hx : ∃ k, k < n ∧ p k
    · obtain ⟨k, h1, h2⟩ := hx
      exact ih k h1 h2
    · exact ⟨n, h, fun k hk hp => hx ⟨k, hk, hp⟩⟩
theorem cnt_hv {A : Nat → Bool} {i : Nat} (h1 : ∀ k, k < i → kd k = 2 → A k = true) (h2 : ∀ k, i ≤ k → kd k = 2 → A k = false) : cnt (fun j => kd j == 2 && A j) ops.size = hv kd ops.size i := cnt_congr _ fun j hj => by
  cases hkj : (kd j == 2) with
  | false => rfl
  | true =>
    have hkj' : kd j = 2 := by simpa using hkj
    simp only [Bool.true_and]
    by_cases hlt : j < i
    · rw [h1 j hlt hkj']; simp [hlt]
    · rw [h2 j (by omega) hkj']; simp; omega
/-- What is pending and may be, is there. -/
theorem Mid.full (F : Facts P ops a V kd fl Ms Ac bef) {L : Nat → Bool} {l : List Nat} {S : AAct → Mem → Prop}
    (hk : ∀ A pds b m, Mid P ops a V kd fl Ms L A pds b m → Full kd L A → Goes P ops l pds b m S) : ∀ (n : Nat) (A : Nat → Bool) (pds : List Pd) (b : AAct) (m : Mem), pds.length = n → Mid P ops a V kd fl Ms L A pds b m → Goes P ops l pds b m S := by
  intro n
  induction n with
  | zero =>
    intro A pds b m hn h
    refine hk A pds b m h fun j hj hall => ?_
    cases hq : A j with
    | true => rfl
    | false =>
      obtain ⟨p, hp, _⟩ := h.pd j (hall j (Nat.le_refl _) hj) hq
      rw [List.eq_nil_of_length_eq_zero hn] at hp; cases hp
  | succ n ih =>
    intro A pds b m hn h
    by_cases hfull : Full kd L A
    · exact hk A pds b m h hfull
    · have hex : ∃ j, kd j = 2 ∧ (∀ k, k ≤ j → kd k = 2 → L k = true) ∧ A j = false := by
        refine Classical.byContradiction fun hno => hfull fun j hj hall => ?_
        cases hq : A j with
        | true => rfl
        | false => exact absurd ⟨j, hj, hall, hq⟩ hno
      obtain ⟨j0, hj0⟩ := hex
      obtain ⟨j, ⟨hkj, hall, hAj⟩, hleast⟩ := least_nat (p := fun j => kd j = 2 ∧ (∀ k, k ≤ j → kd k = 2 → L k = true) ∧ A j = false) hj0
      have hlow : ∀ k, k < j → kd k = 2 → A k = true := fun k hk hkk => by
        cases hq : A k with
        | true => rfl
        | false => exact absurd ⟨hkk, fun k' hk' => hall k' (by omega), hq⟩ (hleast k hk)
      have hLj := hall j (Nat.le_refl _) hkj
      have hflj := h.rest j hLj hAj
      obtain ⟨p, hp, hpof⟩ := h.pd j hLj hAj
      obtain ⟨l1, l2, rfl⟩ := List.append_of_mem hp
      obtain ⟨o, e, z, ho, hop, hz, hone, hdst, hcs, hval⟩ := hpof
      have hpof : Pof P ops j p := ⟨o, e, z, ho, hop, hz, hone, hdst, hcs, hval⟩
      have hap := h.apart
      have hne : ∀ q ∈ l1 ++ l2, q.d ≠ p.d := fun q hq => by
        rw [List.pairwise_append] at hap
        obtain ⟨_, h2, h3⟩ := hap
        rcases List.mem_append.1 hq with hq | hq
        · exact h3 q hq p (by simp)
        · exact ((List.pairwise_cons.1 h2).1 q hq).symm
      have hjs := h.lt j hLj
      have hc : cnt (fun j => kd j == 2 && A j) ops.size = hv kd ops.size j := cnt_hv hlow fun k hk hkk => by
        cases hq : A k with
        | false => rfl
        | true =>
          rcases Nat.lt_or_ge j k with hlt | hge
          · have := h.pre j k hkk hq hlt hkj; rw [hAj] at this; cases this
          · obtain rfl : k = j := by omega
            rw [hAj] at hq; cases hq
      obtain ⟨e', z', d', g1, g2, g3, g4, g5, g6⟩ := F.sF j o ho hflj
      rw [hop] at g1; cases g1
      rw [hz] at g2; cases g2
      rw [hdst] at g4; cases g4
      have hm := h.mem
      rw [hc] at hm
      have hV : V j = p.val m.nx := by rw [g5, hval, hm]
      refine Goes.reg hne ?_
      have hA' : ∀ i, i < ops.size → (fun i => if i = j then true else A i) i = if i = j then true else A i := fun i _ => rfl
      refine ih (fun i => if i = j then true else A i) (l1 ++ l2) _ _ (by simp at hn ⊢; omega) ⟨h.n, h.d, ?_, ?_, h.closed, h.lt, ?_, ?_, ?_, ?_, ?_, ?_⟩
      · have := lookL_put F ho hA' h.look
        rw [hV, hdst] at this
        exact this
      · have h1 := cnt_add (p := fun i => kd i == 2 && A i) (q := fun i => kd i == 2 && (if i = j then true else A i)) j ops.size hjs (by simp [hAj]) fun i hi => by
          by_cases hij : i = j
          · subst hij; simp [hkj]
          · simp [hij]
        rw [h1, hc, g6, ← hm, hcs]
      · intro i hi
        by_cases hij : i = j
        · subst hij; exact hLj
        · exact h.sub i (by simpa [hij] using hi)
      · intro i hi hAi
        by_cases hij : i = j
        · subst hij; exact hflj
        · exact h.rest i hi (by simpa [hij] using hAi)
      · intro k x hkx hAx hlt hkk
        by_cases hkj2 : k = j
        · simp [hkj2]
        · have : A k = true := by
            by_cases hxj : x = j
            · subst hxj; exact hlow k hlt hkk
            · exact h.pre k x hkx (by simpa [hxj] using hAx) hlt hkk
          simp [hkj2, this]
      · intro i hi hAi
        have hij : i ≠ j := fun e => by subst e; simp at hAi
        obtain ⟨q, hq, hqof⟩ := h.pd i hi (by simpa [hij] using hAi)
        refine ⟨q, ?_, hqof⟩
        have hqp : q ≠ p := fun e => by
          subst e
          exact hij (F.dsts i j q.d hqof.dst hpof.dst)
        simp at hq ⊢
        rcases hq with hq | hq | hq
        · exact .inl hq
        · exact absurd hq hqp
        · exact .inr hq
      · intro q hq
        obtain ⟨i, hi, hAi, hqof⟩ := h.dp q (by simp at hq ⊢; exact hq.elim .inl fun h => .inr (.inr h))
        have hij : i ≠ j := fun e => by
          subst e
          have h1 := hqof.dst
          rw [hpof.dst] at h1
          exact hne q hq (Option.some.inj h1).symm
        exact ⟨i, hi, by simp [hij, hAi], hqof⟩
      · exact hap.sublist (by simp)
theorem Mid.step (F : Facts P ops a V kd fl Ms Ac bef) {L L' A : Nat → Bool} {pds : List Pd} {b : AAct} {m : Mem} (h : Mid P ops a V kd fl Ms L A pds b m) (hfull : Full kd L A) {i : Nat} {o : Oper} (ho : ops[i]? = some o) (hni : L i = false) (hd : ∀ e ∈ o.after, Region.binds .any e = true → L e.on = true)
    (hL : ∀ j, j < ops.size → L' j = if j = i then true else L j) (hL2 : ∀ j, ops.size ≤ j → L' j = false) {l : List Nat} {S : AAct → Mem → Prop}
    (hk : ∀ A' pds' b' m', Mid P ops a V kd fl Ms L' A' pds' b' m' → Goes P ops l pds' b' m' S) : Goes P ops (i :: l) pds b m S := by
  have hi : i < ops.size := (Array.getElem?_eq_some_iff.1 ho).1
  obtain ⟨c1, c2, c3⟩ := ac_look F i (by omega)
  have hAi : A i = false := by
    cases hq : A i with
    | false => rfl
    | true => have := h.sub i hq; rw [hni] at this; cases this
  have hbL : ∀ j, bef i j = true → L j = true := fun j hj => h.closed.ready ho hd (F.reach _ _ hj)
  have hno : ∀ j, bef j i = true → L j = false := fun j hj => by
    cases hq : L j with
    | false => rfl
    | true => have := h.closed.reach hq (F.reach _ _ hj); rw [hni] at this; cases this
  have hno' : ∀ j, bef j i = true → A j = false := fun j hj => by
    cases hq : A j with
    | false => rfl
    | true => have := h.sub j hq; rw [hno j hj] at this; cases this
  have hthere : ∀ s j, s ∈ o.looksAt ops → dstOf ops j = some s → j < i → bef i j = true → A j = true := fun s j hs hj hlt hb => by
    cases hfj : fl j with
    | false =>
      cases hq : A j with
      | true => rfl
      | false => have := h.rest j (hbL j hb) hq; rw [hfj] at this; cases this
    | true =>
      refine hfull j (F.flk j hfj) fun k hk hkk => ?_
      rcases Nat.lt_or_eq_of_le hk with hlt' | rfl
      · exact hbL k (F.late i o s j ho hs hj hfj hlt k hlt' hkk)
      · exact hbL k hb
  have hlook : ∀ s ∈ o.looksAt ops, (Ac i).look s = b.look s := fun s hs => by
    rw [c3, h.look]
    by_cases hx : ∃ j, dstOf ops j = some s
    · obtain ⟨j, hj⟩ := hx
      rw [lookL_at F hj, lookL_at F hj]
      by_cases hji : j = i
      · subst hji; simp [hAi]
      · rcases F.names i o s j ho hs hj hji with ⟨h1, h2⟩ | ⟨h1, h2⟩
        · simp [h1, hthere s j hs hj h1 h2]
        · simp [hno' j h2]; omega
    · rw [lookL_none fun j hj => hx ⟨j, hj⟩, lookL_none fun j hj => hx ⟨j, hj⟩]
  have hpd : ∀ p ∈ pds, p.d ∉ o.looksAt ops ∧ o.dst ≠ some p.d := fun p hp => by
    obtain ⟨j, hLj, hAj, hpof⟩ := h.dp p hp
    have hji : j ≠ i := fun e => by subst e; rw [hni] at hLj; cases hLj
    refine ⟨fun hs => ?_, fun e => hji (F.dsts j i p.d hpof.dst (by simp [dstOf, ho, e]))⟩
    rcases F.names i o p.d j ho hs hpof.dst hji with ⟨h1, h2⟩ | ⟨h1, h2⟩
    · have := hthere p.d j hs hpof.dst h1 h2; rw [hAj] at this; cases this
    · have := hno j h2; rw [hLj] at this; cases this
  have hev := ev_of_look hlook
  have hwant : awanted ops b o = awanted ops (Ac i) o := awanted_of_look (by rw [h.n, c1]) fun s hs => (hlook s hs).symm
  have hskip : askip ops b o = askip ops (Ac i) o := askip_of_look (by rw [h.n, c1]) fun s hs => (hlook s hs).symm
  have hdst : dstOk b o.dst = true := by
    have := (F.acs i o ho).2
    cases hq : o.dst with
    | none => rfl
    | some t => rw [hq] at this; simpa [dstOk, h.n] using this
  have hclosed : Closed ops L' := fun j o' e hj ho' he hb => by
    have hjlt : j < ops.size := (Array.getElem?_eq_some_iff.1 ho').1
    have hon : e.on < ops.size := by have := F.back j o' e ho' he hb; omega
    rw [hL j hjlt] at hj
    rw [hL _ hon]
    split
    · rfl
    · split at hj
      · subst_vars; rw [ho] at ho'; cases ho'; exact hd e he hb
      · exact h.closed j o' e hj ho' he hb
  have hltL : ∀ j, L' j = true → j < ops.size := fun j hj => by
    rcases Nat.lt_or_ge j ops.size with h' | h'
    · exact h'
    · rw [hL2 j h'] at hj; cases hj
  have hmono : ∀ j, L j = true → L' j = true := fun j hj => by
    rw [hL j (h.lt j hj)]; split <;> simp [hj]
  have hback : ∀ j, L' j = true → j ≠ i → L j = true := fun j hj hne => by
    rw [hL j (hltL j hj), if_neg hne] at hj; exact hj
  have hLi : L' i = true := by rw [hL i hi, if_pos rfl]
  -- all but an allocation that comes early
  have next : ∀ m', m' = Ms (cnt (fun j => kd j == 2 && (if j = i then true else A j)) ops.size) → (kd i = 2 → ∀ k, k < i → kd k = 2 → A k = true) → Goes P ops l pds (b.put o.dst (V i)) m' S := fun m' hm' hpre => by
    refine hk (fun j => if j = i then true else A j) pds _ _ ⟨by cases o.dst <;> exact h.n, by cases o.dst <;> exact h.d, lookL_put F ho (fun j _ => rfl) h.look, hm', hclosed, hltL, fun j hj => ?_, fun j hj hAj => ?_, fun k j hkj hAj hlt hkk => ?_, fun j hj hAj => ?_, fun p hp => ?_, h.apart⟩
    · by_cases hji : j = i
      · subst hji; exact hLi
      · exact hmono j (h.sub j (by simpa [hji] using hj))
    · by_cases hji : j = i
      · subst hji; simp at hAj
      · exact h.rest j (hback j hj hji) (by simpa [hji] using hAj)
    · have : A k = true := by
        by_cases hji : j = i
        · subst hji; exact hpre hkj k hlt hkk
        · exact h.pre k j hkj (by simpa [hji] using hAj) hlt hkk
      simp [this]
    · by_cases hji : j = i
      · subst hji; simp at hAj
      · exact h.pd j (hback j hj hji) (by simpa [hji] using hAj)
    · obtain ⟨j, hLj, hAj, hpof⟩ := h.dp p hp
      have hji : j ≠ i := fun e => by subst e; rw [hni] at hLj; cases hLj
      exact ⟨j, hmono j hLj, by simp [hji, hAj], hpof⟩
  have same : kd i ≠ 2 → cnt (fun j => kd j == 2 && (if j = i then true else A j)) ops.size = cnt (fun j => kd j == 2 && A j) ops.size := fun hne => cnt_congr _ fun j hj => by
    by_cases hji : j = i
    · subst hji
      have : (kd j == 2) = false := by simpa using hne
      simp [this]
    · rw [if_neg hji]
  rcases F.kinds i hi with hk0 | hk1 | hk2
  · obtain ⟨h1, h2⟩ := F.s0 i o ho hk0
    refine Goes.skip ho (by rw [hskip]; exact h1) hdst hpd ?_
    rw [← h2]; exact next m (by rw [same (by omega)]; exact h.mem) (by omega)
  · obtain ⟨h1, h2, h3⟩ := F.s1 i o ho hk1
    refine Goes.step ho (by rw [hwant]; exact h1) h2 (F.nosel i o ho) hdst hpd (OStep.light (v := V i) ?_) (next m (by rw [same (by omega)]; exact h.mem) (by omega))
    rw [← alight_congr (a := Ac i) (b := b) o.op hev, h.mem]
    refine h3 _ (cnt_mono _ fun j hj hq => ?_) (cnt_mono _ fun j hj hq => ?_)
    · simp only [befA, Bool.and_eq_true, Bool.or_eq_true, Bool.not_eq_true'] at hq ⊢
      obtain ⟨hq1, hq2, hq3⟩ := hq
      refine ⟨hq1, ?_⟩
      have hkj : kd j = 2 := by simpa using hq1
      rcases hq3 with hq3 | hq3
      · cases hq : A j with
        | true => rfl
        | false => have := h.rest j (hbL j hq2) hq; rw [hq3] at this; cases this
      · refine hfull j hkj fun k hk hkk => ?_
        rcases Nat.lt_or_eq_of_le hk with hlt' | rfl
        · have := List.all_eq_true.1 hq3 k (List.mem_range.2 hlt')
          simp [hkk] at this
          exact hbL k this
        · exact hbL k hq2
    · simp only [Bool.and_eq_true, Bool.not_eq_true'] at hq ⊢
      refine ⟨hq.1, ?_⟩
      cases hb : bef j i with
      | false => rfl
      | true => have := hno' j hb; rw [hq.2] at this; cases this
  · cases hfi : fl i with
    | false =>
      obtain ⟨h1, h1', h2⟩ := F.s2 i o ho hk2
      have hlow : ∀ k, k < i → kd k = 2 → A k = true := fun k hk hkk => hfull k hkk fun k' hk' hkk' => hbL k' (F.chain k' i (by omega) hi hkk' hk2 hfi)
      have hcnt : cnt (fun j => kd j == 2 && A j) ops.size = hv kd ops.size i := cnt_hv hlow fun k hk hkk => by
        cases hq : A k with
        | false => rfl
        | true =>
          rcases Nat.lt_or_ge i k with hlt | hge
          · have := h.pre i k hkk hq hlt hk2; rw [hAi] at this; cases this
          · obtain rfl : k = i := by omega
            rw [hAi] at hq; cases hq
      have hcnt' : cnt (fun j => kd j == 2 && (if j = i then true else A j)) ops.size = cnt (fun j => kd j == 2 && A j) ops.size + 1 :=
        cnt_add i ops.size hi (by simp [hAi]) fun j hj => by
          by_cases hji : j = i
          · subst hji; simp [hk2]
          · rw [if_neg hji, if_neg hji]
      have hm : m = Ms (hv kd ops.size i) := by rw [← hcnt]; exact h.mem
      rw [hm]
      exact Goes.step ho (by rw [hwant]; exact h1) h1' (F.nosel i o ho) hdst hpd (OStep.det (h2.congr hev)) (next _ (by rw [hcnt', hcnt]) fun _ => hlow)
    | true =>
      obtain ⟨e, z, d, g1, g2, g3, g4, g5, g6⟩ := F.sF i o ho hfi
      have h1 := (F.s2 i o ho hk2).1
      refine Goes.early ho g1 g2 g3 g4 (by rw [hwant]; exact h1) hdst hpd ?_
      have hnew : Pof P ops i ⟨d, z.cells.toList, fun k => .pointer (some ⟨k, 0, none⟩)⟩ := ⟨o, e, z, ho, g1, g2, g3, g4, rfl, rfl⟩
      refine hk A _ b m ⟨h.n, h.d, h.look, h.mem, hclosed, hltL, fun j hj => hmono j (h.sub j hj), fun j hj hAj => ?_, h.pre, fun j hj hAj => ?_, fun p hp => ?_, ?_⟩
      · by_cases hji : j = i
        · subst hji; exact hfi
        · exact h.rest j (hback j hj hji) hAj
      · by_cases hji : j = i
        · subst hji; exact ⟨_, List.mem_cons_self .., hnew⟩
        · obtain ⟨p, hp, hpof⟩ := h.pd j (hback j hj hji) hAj
          exact ⟨p, List.mem_cons_of_mem _ hp, hpof⟩
      · rcases List.mem_cons.1 hp with rfl | hp
        · exact ⟨i, hLi, hAi, hnew⟩
        · obtain ⟨j, hLj, hAj, hpof⟩ := h.dp p hp
          exact ⟨j, hmono j hLj, hAj, hpof⟩
      · refine List.pairwise_cons.2 ⟨fun q hq e => ?_, h.apart⟩
        exact (hpd q hq).2 (by rw [g4]; exact congrArg some e)
theorem go_succ (md : Region.Mode) (ops : Array Oper) (fuel t : Nat) (listed : Array Bool) :
    Region.linearise.go md ops (fuel + 1) t listed [] = ((Region.ready md ops listed)[t % (Region.ready md ops listed).length]?).elim [] fun i => i :: Region.linearise.go md ops fuel (t / (Region.ready md ops listed).length) (listed.setIfInBounds i true) [] := by
  rw [Region.linearise.go]
  cases hq : (Region.ready md ops listed)[t % (Region.ready md ops listed).length]? with
  | none =>
    unfold Region.ready at hq
    simp only [hq, List.reverse_nil, Option.elim]
  | some i =>
    unfold Region.ready at hq ⊢
    simp only [hq, Option.elim]
    rw [linearise_go_acc, List.reverse_singleton, List.singleton_append]
theorem AOps.any (hm : P.follows .mixedOrders = true) (F : Facts P ops a V kd fl Ms Ac bef) (hk : ∀ i, i < ops.size → kd i = 0 ∨ kd i = 1 ∨ kd i = 2) :
    ∀ t, AOps P ops (Region.schedule (P.follows .mixedOrders) ops t) a (Ms 0) fun a1 m1 => a1 = Ac ops.size ∧ m1 = Ms (cnt (fun j => kd j == 2) ops.size) := by
  intro t
  simp only [Region.schedule, hm, Bool.true_or, if_true, Region.linearise]
  have key : ∀ (fuel t : Nat) (listed : Array Bool) (A : Nat → Bool) (pds : List Pd) (b : AAct) (m : Mem), listed.size = ops.size → cnt (fun j => listed.getD j false) ops.size + fuel = ops.size → Mid P ops a V kd fl Ms (fun j => listed.getD j false) A pds b m → Full kd (fun j => listed.getD j false) A →
      Goes P ops (Region.linearise.go .any ops fuel t listed []) pds b m fun a1 m1 => a1 = Ac ops.size ∧ m1 = Ms (cnt (fun j => kd j == 2) ops.size) := by
    intro fuel
    induction fuel with
    | zero =>
      intro t listed A pds b m hsz hc hmid hfull
      have hall : ∀ j, j < ops.size → listed.getD j false = true := fun j hj => by
        cases hq : listed.getD j false with
        | true => rfl
        | false =>
          have h1 := cnt_add (p := fun j => listed.getD j false) (q := fun i => if i = j then true else listed.getD i false) j ops.size hj hq (fun i _ => rfl)
          have h2 : ∀ (p : Nat → Bool) (n : Nat), cnt p n ≤ n := fun p n => by
            induction n with
            | zero => exact Nat.le_refl _
            | succ n ih => simp only [cnt]; split <;> omega
          have h3 := h2 (fun i => if i = j then true else listed.getD i false) ops.size
          omega
      obtain ⟨c1, c2, c3⟩ := ac_look F ops.size (Nat.le_refl _)
      simp only [Region.linearise.go, List.reverse_nil]
      have hallA : ∀ j, j < ops.size → A j = true := fun j hj => by
        cases hq : A j with
        | true => rfl
        | false =>
          have h1 := F.flk j (hmid.rest j (hall j hj) hq)
          have := hfull j h1 fun k hk _ => hall k (by omega)
          rw [hq] at this; cases this
      have hpds : pds = [] := by
        cases pds with
        | nil => rfl
        | cons p pds =>
          obtain ⟨j, hj, hq, _⟩ := hmid.dp p (by simp)
          have := hallA j (hmid.lt j hj)
          rw [hq] at this; cases this
      subst hpds
      refine Goes.nil (b := Ac ops.size) ⟨by rw [hmid.n, c1], by rw [hmid.d, c2], fun s => ?_⟩ ⟨rfl, ?_⟩
      · rw [hmid.look, c3]
        by_cases hx : ∃ j, dstOf ops j = some s
        · obtain ⟨j, hj⟩ := hx
          rw [lookL_at F hj, lookL_at F hj, hallA j (dstOf_lt hj)]
          simp [dstOf_lt hj]
        · rw [lookL_none fun j hj => hx ⟨j, hj⟩, lookL_none fun j hj => hx ⟨j, hj⟩]
      · rw [hmid.mem]
        congr 1
        exact cnt_congr _ fun j hj => by rw [hallA j hj]; simp
    | succ fuel ih =>
      intro t listed A pds b m hsz hc hmid hfull
      rw [go_succ]
      -- there is one that may come
      have hex : ∃ i, i ∈ Region.ready .any ops listed := by
        have hne : ∃ i, i < ops.size ∧ listed.getD i false = false := by
          refine Classical.byContradiction fun hno => ?_
          have hall : ∀ i, i < ops.size → listed.getD i false = true := fun i hi => by
            cases hq : listed.getD i false with
            | true => rfl
            | false => exact absurd ⟨i, hi, hq⟩ hno
          have : cnt (fun j => listed.getD j false) ops.size = ops.size := by
            rw [cnt_congr (q := fun _ => true) ops.size fun i hi => hall i hi]
            have : ∀ n, cnt (fun _ => true) n = n := fun n => by induction n with
              | zero => rfl
              | succ n ih => simp [cnt, ih]
            exact this _
          omega
        have least : ∀ n i, i ≤ n → i < ops.size → listed.getD i false = false → ∃ j, j < ops.size ∧ listed.getD j false = false ∧ ∀ q, q < j → listed.getD q false = true := by
          intro n
          induction n with
          | zero => intro i hi hlt hq; exact ⟨i, hlt, hq, fun q hq' => by omega⟩
          | succ n ih =>
            intro i hi hlt hq
            by_cases hall : ∀ q, q < i → listed.getD q false = true
            · exact ⟨i, hlt, hq, hall⟩
            · obtain ⟨q, hq2⟩ := Classical.not_forall.1 hall
              obtain ⟨hq3, hq4⟩ := Classical.not_imp.1 hq2
              exact ih q (by omega) (by omega) (by simpa using hq4)
        obtain ⟨i, hi, hq⟩ := hne
        obtain ⟨j, hj, hj2, hj3⟩ := least i i (Nat.le_refl _) hi hq
        refine ⟨j, mem_ready.2 ⟨?_, ops[j], Array.getElem?_eq_getElem hj, fun e he hb => hj3 _ (F.back j ops[j] e (Array.getElem?_eq_getElem hj) he hb)⟩⟩
        have : j < listed.size := by omega
        simpa [Array.getD_eq_getD_getElem?, this] using hj2
      cases hget : (Region.ready .any ops listed)[t % (Region.ready .any ops listed).length]? with
      | none =>
        obtain ⟨i, hi⟩ := hex
        have hpos : 0 < (Region.ready .any ops listed).length := List.length_pos_of_mem hi
        have hlt := Nat.mod_lt t hpos
        rw [List.getElem?_eq_none_iff] at hget
        omega
      | some i =>
        simp only [Option.elim]
        obtain ⟨r1, o, ho, r2⟩ := mem_ready.1 (List.mem_of_getElem? hget)
        have hi : i < ops.size := (Array.getElem?_eq_some_iff.1 ho).1
        have hil : i < listed.size := by omega
        have hni : listed.getD i false = false := by simpa [Array.getD_eq_getD_getElem?, hil] using r1
        have hset : ∀ j, (listed.setIfInBounds i true).getD j false = if j = i then true else listed.getD j false := fun j => by
          by_cases hji : j = i
          · subst hji; simp [Array.getD_eq_getD_getElem?, hil]
          · rw [if_neg hji]; simp [Array.getD_eq_getD_getElem?, Array.getElem?_setIfInBounds_ne (Ne.symm hji)]
        refine Mid.step F hmid hfull ho hni r2 (L' := fun j => (listed.setIfInBounds i true).getD j false) (fun j _ => hset j) (fun j hj => ?_) fun A' pds' b' m' hmid' => Mid.full F (fun A2 pds2 b2 m2 h2 hf2 => ih _ _ _ _ _ _ (by simpa using hsz) ?_ h2 hf2) _ A' pds' b' m' rfl hmid'
        · rw [hset, if_neg (by omega)]
          simp [Array.getD_eq_getD_getElem?, Array.getElem?_eq_none (show listed.size ≤ j by omega)]
        · have := cnt_add (p := fun j => listed.getD j false) (q := fun j => (listed.setIfInBounds i true).getD j false) i ops.size hi hni (fun j _ => hset j)
          omega
  have hrep : ∀ j, (Array.replicate ops.size false).getD j false = false := fun j => by
    rw [Array.getD_eq_getD_getElem?]
    cases hq : (Array.replicate ops.size false)[j]? with
    | none => rfl
    | some u => have := Array.mem_of_getElem? hq; simp at this; simp [this.2]
  have hc0 : ∀ n, cnt (fun _ => false) n = 0 := fun n => by induction n with
    | zero => rfl
    | succ n ih => simp [cnt, ih]
  refine AOps.of_goes (Mid.full F (fun A2 pds2 b2 m2 h2 hf2 => key ops.size t _ A2 pds2 b2 m2 (by simp) ?_ h2 hf2) 0 (fun _ => false) [] a (Ms 0) rfl ⟨rfl, rfl, fun s => ?_, ?_, fun i o e hi => ?_, fun i hi => ?_, fun i hi => ?_, fun i hi => ?_, fun k j _ hj => ?_, fun j hj => ?_, fun p hp => ?_, .nil⟩)
  · rw [cnt_congr (q := fun _ => false) ops.size fun i _ => hrep i, hc0]; omega
  · unfold lookL
    split
    · rw [if_neg (by simp)]
    · rfl
  · congr 1
    rw [cnt_congr (q := fun _ => false) ops.size fun i _ => by simp, hc0]
  · rw [hrep] at hi; cases hi
  · rw [hrep] at hi; cases hi
  · cases hi
  · rw [hrep] at hi; cases hi
  · cases hj
  · rw [hrep] at hj; cases hj
  · cases hp
end
end Go.Eng

/- Running code abstractly: one operation, a region. -/
namespace Go.Eng
open Go.RowKit
variable [Side]

/-! ### 2. What comes ahead of what, reckoned -/
def edgesMask (acc : List Nat) (o : Oper) : Nat := o.after.toList.foldl (fun s e => if Region.binds .any e then s ||| (2 ^ e.on ||| acc.getD e.on 0) else s) 0
def masks (l : List Oper) : List Nat → List Nat := match l with
  | [] => fun acc => acc
  | o :: l => fun acc => masks l (acc ++ [edgesMask acc o])
theorem edgesMask_bit (acc : List Nat) (j : Nat) : ∀ (es : List Edge) (s : Nat), (es.foldl (fun s e => if Region.binds .any e then s ||| (2 ^ e.on ||| acc.getD e.on 0) else s) s).testBit j = true →
    s.testBit j = true ∨ ∃ e ∈ es, Region.binds .any e = true ∧ (e.on = j ∨ (acc.getD e.on 0).testBit j = true) := by
  intro es
  induction es with
  | nil => intro s h; exact .inl h
  | cons e es ih =>
    intro s h
    simp only [List.foldl_cons] at h
    rcases ih _ h with h1 | ⟨e', h1, h2, h3⟩
    · split at h1
      · rename_i hb
        simp only [Nat.testBit_or, Bool.or_eq_true] at h1
        rcases h1 with h1 | h1 | h1
        · exact .inl h1
        · rw [Nat.testBit_two_pow] at h1
          exact .inr ⟨e, by simp, hb, .inl (by simpa using h1)⟩
        · exact .inr ⟨e, by simp, hb, .inr h1⟩
      · exact .inl h1
    · exact .inr ⟨e', by simp [h1], h2, h3⟩
theorem masks_reach (ops : Array Oper) : ∀ (l : List Oper) (acc : List Nat), (∀ k, l[k]? = ops[acc.length + k]?) → (∀ i j, (acc.getD i 0).testBit j = true → Reach ops i j) → ∀ i j, ((masks l acc).getD i 0).testBit j = true → Reach ops i j := by
  intro l
  induction l with
  | nil => intro acc _ h; exact h
  | cons o l ih =>
    intro acc hl h
    simp only [masks]
    have ho : ops[acc.length]? = some o := by simpa using (hl 0).symm
    refine ih _ (fun k => by have := hl (k + 1); simpa [Nat.add_assoc, Nat.add_comm 1 k] using this) fun i j hij => ?_
    rcases Nat.lt_trichotomy i acc.length with hlt | heq | hgt
    · refine h i j ?_
      rw [List.getD_eq_getElem?_getD, List.getElem?_append_left hlt] at hij
      rw [List.getD_eq_getElem?_getD]; exact hij
    · subst heq
      rw [List.getD_eq_getElem?_getD, List.getElem?_append_right (Nat.le_refl _)] at hij
      simp only [Nat.sub_self, List.getElem?_cons_zero, Option.getD_some, edgesMask] at hij
      rcases edgesMask_bit acc j _ 0 hij with h1 | ⟨e, h1, h2, h3⟩
      · simp at h1
      · have he : e ∈ o.after := by simpa using h1
        rcases h3 with rfl | h3
        · exact .one ho he h2
        · exact .step ho he h2 (h _ _ h3)
    · rw [List.getD_eq_getElem?_getD, List.getElem?_eq_none (by simp; omega)] at hij
      simp at hij

/-! ### 3. One operation -/
structure Runs where
  call : FuncId → List Value → Mem → Option (Value × Mem)
  ext : FuncId → List Value → Mem → Option (Value × Mem)
  round : Nat → List Value → Mem → Option (Value × Mem)
structure Runs.Ok (P : Program) (X : Runs) : Prop where
  call : ∀ f vs m v m', X.call f vs m = some (v, m') → ACall P f vs m fun v1 m1 => v1 = v ∧ m1 = m'
  ext : ∀ f vs m v m', X.ext f vs m = some (v, m') → AInv P f vs m fun v1 m1 => v1 = v ∧ m1 = m'
  round : ∀ k vs m v m', X.round k vs m = some (v, m') → ARound P k vs m fun v1 m1 => v1 = v ∧ m1 = m'
def exHeavy (P : Program) (X : Runs) (a : AAct) (m : Mem) (op : Go.Op) : Option (Value × Mem) :=
  match op with
  | .defer _ => none
  | .call c =>
    match c.callee with
    | .value fo =>
      match a.ev fo, a.evs c.args.toList with
      | some (.func (.func f) p caps), some vs => if p.size = 0 then (if callable P f then X.call f (vs ++ caps.toList) m else X.ext f (vs ++ caps.toList) m) else none
      | some (.func (.yield k) p caps), some vs => if p.size = 0 ∧ caps.size = 0 then X.round k vs m else none
      | _, _ => none
    | _ => match aheavy P m a (.call c) with
      | some [q] => some q
      | _ => none
  | op => match aheavy P m a op with
    | some [q] => some q
    | _ => none
theorem exHeavy_ok {P : Program} {X : Runs} (hX : X.Ok P) {a : AAct} {m m' : Mem} {op : Go.Op} {v : Value} (h : exHeavy P X a m op = some (v, m')) : DetStep P op a m v m' := by
  have other : ∀ op : Go.Op, (∀ c, op ≠ .defer c) → (match aheavy P m a op with | some [q] => some q | _ => none) = some (v, m') → DetStep P op a m v m' := fun op hnd h => by
    split at h
    · rename_i q hq; cases h; exact .inl ⟨hnd, hq⟩
    · cases h
  unfold exHeavy at h
  split at h
  · cases h
  · rename_i c
    split at h
    · rename_i fo hfo
      split at h
      · rename_i f p caps vs h1 h2
        split at h
        · rename_i hp
          obtain rfl := array1 hp
          refine .inr (.inl ⟨c, fo, f, caps, vs, rfl, hfo, h1, h2, ?_⟩)
          split at h
          · rename_i hc; exact AInv.of_call hc (hX.call _ _ _ _ _ h)
          · exact hX.ext _ _ _ _ _ h
        · cases h
      · rename_i k p caps vs h1 h2
        split at h
        · rename_i hp
          obtain rfl := array1 hp.1
          obtain rfl := array1 hp.2
          exact .inr (.inr ⟨c, fo, k, vs, rfl, hfo, h1, h2, hX.round _ _ _ _ _ h⟩)
        · cases h
      · cases h
    · exact other _ (fun c' hc => by cases hc) h
  · rename_i h1 h2
    exact other _ (fun c hc => h1 c hc) h
def notDefer : Go.Op → Bool
  | .defer _ => false
  | _ => true
theorem notDefer_ne {op : Go.Op} (h : notDefer op = true) : ∀ c, op ≠ .defer c := fun c hc => by subst hc; cases h
/-- Its kind (0: not wanted; 1: light; 2: heavy), its value, the memory behind it. -/
def ex1 (P : Program) (X : Runs) (ops : Array Oper) (o : Oper) (a : AAct) (m : Mem) : Option (Nat × Value × Mem) :=
  if dstOk a o.dst && notDefer o.op then
    if awanted ops a o then
      match alight P m a o.op with
      | some v => some (1, v, m)
      | none => match exHeavy P X a m o.op with
        | some (v, m') => some (2, v, m')
        | none => none
    else if askip ops a o then some (0, undef, m) else none
  else none
def exOps (P : Program) (X : Runs) (ops : Array Oper) : List Oper → AAct → Mem → Option (AAct × Mem)
  | [], a, m => some (a, m)
  | o :: l, a, m => match ex1 P X ops o a m with
    | some (_, v, m') => exOps P X ops l (a.put o.dst v) m'
    | none => none
theorem ex1_ok {P : Program} {X : Runs} (hX : X.Ok P) {ops : Array Oper} {o : Oper} {a : AAct} {m m' : Mem} {k : Nat} {v : Value} (h : ex1 P X ops o a m = some (k, v, m')) :
    dstOk a o.dst = true ∧ ((k = 0 ∧ askip ops a o = true ∧ v = undef ∧ m' = m) ∨ (k = 1 ∧ awanted ops a o = true ∧ (∀ c, o.op ≠ .defer c) ∧ alight P m a o.op = some v ∧ m' = m) ∨ (k = 2 ∧ awanted ops a o = true ∧ DetStep P o.op a m v m')) := by
  unfold ex1 at h
  split at h
  · rename_i hd
    simp only [Bool.and_eq_true] at hd
    refine ⟨hd.1, ?_⟩
    split at h
    · rename_i hw
      split at h
      · rename_i u hu; cases h; exact .inr (.inl ⟨rfl, hw, notDefer_ne hd.2, hu, rfl⟩)
      · split at h
        · rename_i u m2 hu; cases h; exact .inr (.inr ⟨rfl, hw, exHeavy_ok hX hu⟩)
        · cases h
    · split at h
      · rename_i hw; cases h; exact .inl ⟨rfl, hw, rfl, rfl⟩
      · cases h
  · cases h
theorem exOps_ok {P : Program} {X : Runs} (hX : X.Ok P) {ops : Array Oper} : ∀ (l : List Oper) (k : Nat) (a : AAct) (m : Mem) (a' : AAct) (m' : Mem), (∀ j, l[j]? = ops[k + j]?) → exOps P X ops l a m = some (a', m') →
    AOps P ops (List.range' k l.length) a m fun a1 m1 => a1 = a' ∧ m1 = m' := by
  intro l
  induction l with
  | nil => intro k a m a' m' _ h; simp only [exOps, Option.some.injEq, Prod.mk.injEq] at h; exact AOps.nil ⟨h.1, h.2⟩
  | cons o l ih =>
    intro k a m a' m' hl h
    simp only [exOps] at h
    split at h
    · rename_i kk v m2 h1
      have ho : ops[k]? = some o := by simpa using (hl 0).symm
      have ih' := ih (k + 1) (a.put o.dst v) m2 a' m' (fun j => by have := hl (j + 1); simpa [Nat.add_assoc, Nat.add_comm 1 j] using this) h
      simp only [List.length_cons, List.range'_succ]
      obtain ⟨hd, ⟨_, hw, hv, hm⟩ | ⟨_, hw, hnd, hv, hm⟩ | ⟨_, hw, hs⟩⟩ := ex1_ok hX h1
      · subst hv; subst hm; exact AOps.skip ho hw hd ih'
      · subst hm; exact AOps.light ho hw hnd hv hd ih'
      · exact AOps.det ho hw hd hs ih'
    · cases h
end Go.Eng

/- Running a region that draws its order. -/
namespace Go.Eng
open Go.RowKit
variable [Side]

structure Rec where
  k : Nat
  v : Value
  a : AAct
def exTr (P : Program) (X : Runs) (ops : Array Oper) : List Oper → AAct → Mem → Option (List Rec × List Mem × AAct)
  | [], a, m => some ([], [m], a)
  | o :: l, a, m => match ex1 P X ops o a m with
    | some (k, v, m') => match exTr P X ops l (a.put o.dst v) m' with
      | some (rs, ms, af) => some (⟨k, v, a⟩ :: rs, (if k = 2 then m :: ms else ms), af)
      | none => none
    | none => none
def kdR (rs : List Rec) (i : Nat) : Nat := match rs[i]? with | some r => r.k | none => 0
def vR (rs : List Rec) (i : Nat) : Value := match rs[i]? with | some r => r.v | none => undef
def acR (rs : List Rec) (af : AAct) (i : Nat) : AAct := match rs[i]? with | some r => r.a | none => af
def msR (ms : List Mem) (m : Mem) (h : Nat) : Mem := match ms[h]? with | some x => x | none => m
theorem exTr_spec {P : Program} {X : Runs} (hX : X.Ok P) {ops : Array Oper} : ∀ (l : List Oper) (a : AAct) (m : Mem) (rs : List Rec) (ms : List Mem) (af : AAct), exTr P X ops l a m = some (rs, ms, af) →
    rs.length = l.length ∧ ms[0]? = some m ∧ acR rs af 0 = a ∧ ∀ i o, l[i]? = some o → ∃ mi mi', ex1 P X ops o (acR rs af i) mi = some (kdR rs i, vR rs i, mi') ∧ ms[cnt (fun j => kdR rs j == 2) i]? = some mi ∧ ms[cnt (fun j => kdR rs j == 2) (i + 1)]? = some mi' ∧
      acR rs af (i + 1) = (acR rs af i).put o.dst (vR rs i) := by
  intro l
  induction l with
  | nil =>
    intro a m rs ms af h
    simp only [exTr, Option.some.injEq, Prod.mk.injEq] at h
    obtain ⟨rfl, rfl, rfl⟩ := h
    exact ⟨rfl, rfl, rfl, fun i o hi => by simp at hi⟩
  | cons o l ih =>
    intro a m rs ms af h
    simp only [exTr] at h
    split at h
    · rename_i k v m' h1
      split at h
      · rename_i rs' ms' af' h2
        cases h
        obtain ⟨g1, g2, g3, g4⟩ := ih _ _ _ _ _ h2
        have hhead : (if k = 2 then m :: ms' else ms')[0]? = some m := by
          split
          · rfl
          · rename_i hk
            rw [g2]
            obtain ⟨_, ⟨_, _, _, hm⟩ | ⟨_, _, _, _, hm⟩ | ⟨hk2, _⟩⟩ := ex1_ok hX h1
            · rw [hm]
            · rw [hm]
            · exact absurd hk2 hk
        have hcnt : ∀ i, cnt (fun j => kdR (⟨k, v, a⟩ :: rs') j == 2) (i + 1) = cnt (fun j => kdR rs' j == 2) i + if k = 2 then 1 else 0 := by
          intro i
          induction i with
          | zero => simp [cnt, kdR]
          | succ i ih2 =>
            have e : kdR (⟨k, v, a⟩ :: rs') (i + 1) = kdR rs' i := by simp [kdR]
            simp only [cnt] at ih2 ⊢
            rw [ih2]; simp only [e]; omega
        have hms : ∀ c, (if k = 2 then m :: ms' else ms')[c + if k = 2 then 1 else 0]? = ms'[c]? := by
          intro c; split <;> simp
        refine ⟨by simp [g1], hhead, rfl, fun i o' hi => ?_⟩
        cases i with
        | zero =>
          simp at hi; subst hi
          refine ⟨m, m', h1, hhead, ?_, ?_⟩
          · rw [hcnt 0, hms]; exact g2
          · show acR (⟨k, v, a⟩ :: rs') af 1 = _
            have : acR (⟨k, v, a⟩ :: rs') af 1 = acR rs' af 0 := by simp [acR]
            rw [this, g3]; rfl
        | succ i =>
          obtain ⟨mi, mi', q1, q2, q3, q4⟩ := g4 i o' (by simpa using hi)
          have e1 : acR (⟨k, v, a⟩ :: rs') af (i + 1) = acR rs' af i := by simp [acR]
          have e2 : acR (⟨k, v, a⟩ :: rs') af (i + 1 + 1) = acR rs' af (i + 1) := by simp [acR]
          have e3 : kdR (⟨k, v, a⟩ :: rs') (i + 1) = kdR rs' i := by simp [kdR]
          have e4 : vR (⟨k, v, a⟩ :: rs') (i + 1) = vR rs' i := by simp [vR]
          refine ⟨mi, mi', ?_, ?_, ?_, ?_⟩
          · rw [e1, e3, e4]; exact q1
          · rw [hcnt, hms]; exact q2
          · rw [hcnt, hms]; exact q3
          · rw [e1, e2, e4]; exact q4
      · cases h
    · cases h

/-- Does an operation read no memory? -/
def memFree : Go.Op → Bool
  | .move _ | .assign _ | .pick .. | .nilCheck _ | .binOp .. | .unOp .. | .convert .. | .fieldAddr .. | .field .. | .indexAddr .. | .index .. | .slice .. | .extract .. | .makeFunc .. | .build .. => true
  | _ => false
theorem memFree_light {P : Program} {m m' : Mem} {a : AAct} {op : Go.Op} (h : memFree op = true) : alight P m a op = alight P m' a op := by
  cases op <;> first | (cases h; done) | rfl | skip
  case slice t x lo hi mx => cases lo <;> cases hi <;> cases mx <;> rfl
  case makeFunc fn p q => cases fn <;> rfl
def befM (mk : List Nat) (i j : Nat) : Bool := (mk.getD i 0).testBit j
def backOk (ops : Array Oper) : Bool := (List.range ops.size).all fun i => match ops[i]? with | some o => o.after.toList.all fun e => !Region.binds .any e || decide (e.on < i) | none => true
def dstsOk (ops : Array Oper) : Bool := (List.range ops.size).all fun i => (List.range ops.size).all fun j => match dstOf ops i, dstOf ops j with | some s, some t => decide (s ≠ t) || decide (i = j) | _, _ => true
def namesOk (ops : Array Oper) (mk : List Nat) : Bool := (List.range ops.size).all fun i => match ops[i]? with
  | some o => (o.looksAt ops).all fun s => (List.range ops.size).all fun j => decide (dstOf ops j ≠ some s) || decide (j = i) || (decide (j < i) && befM mk i j) || (decide (i < j) && befM mk j i)
  | none => true
def isSel : Go.Op → Bool
  | .select _ _ => true
  | _ => false
theorem isSel_ne {op : Go.Op} (h : isSel op = false) : ∀ cs b, op ≠ .select cs b := fun cs b e => by subst e; cases h
def selOk (ops : Array Oper) : Bool := ops.toList.all fun o => !isSel o.op
def staticOk (ops : Array Oper) : Bool := backOk ops && dstsOk ops && namesOk ops (masks ops.toList []) && selOk ops
def isAlloc : Oper → Bool
  | { op := .alloc _, dst := some _, .. } => true
  | _ => false
/-- An allocation that something heavy ahead of it is not ordered against. -/
def flR (ops : Array Oper) (mk : List Nat) (rs : List Rec) (j : Nat) : Bool := kdR rs j == 2 && (match ops[j]? with | some o => isAlloc o | none => false) && !((List.range j).all fun i => kdR rs i != 2 || befM mk j i)
def chainOk (ops : Array Oper) (mk : List Nat) (n : Nat) (rs : List Rec) : Bool := (List.range n).all fun j => kdR rs j != 2 || (match ops[j]? with | some o => isAlloc o | none => false) || (List.range j).all fun i => kdR rs i != 2 || befM mk j i
def lateOk (ops : Array Oper) (mk : List Nat) (rs : List Rec) : Bool := (List.range ops.size).all fun j => !flR ops mk rs j || (List.range ops.size).all fun i => decide (i ≤ j) || match ops[i]?, dstOf ops j with
  | some o, some s => !(o.looksAt ops).contains s || (List.range j).all fun k => kdR rs k != 2 || befM mk i k
  | _, _ => true
def hvs (rs : List Rec) (n : Nat) : List Nat := (List.range n).filter fun j => kdR rs j == 2
theorem cnt_filter (p q : Nat → Bool) : ∀ n, (((List.range n).filter p).filter q).length = cnt (fun j => p j && q j) n
  | 0 => rfl
  | n + 1 => by
    rw [List.range_succ, List.filter_append, List.filter_append, List.length_append, cnt_filter p q n]
    simp only [cnt]
    by_cases hp : p n = true <;> by_cases hq : q n = true <;> simp [List.filter_cons, hp, hq]
def light1 (P : Program) (ops : Array Oper) (mk : List Nat) (rs : List Rec) (ms : List Mem) (af : AAct) (m : Mem) (hk : List Nat) (i : Nat) (o : Oper) : Bool :=
  (List.range ((hk.filter fun j => !befM mk j i).length + 1)).all fun h =>
    decide (h < (hk.filter fun j => befA (kdR rs) (flR ops mk rs) (befM mk) i j).length) || match alight P (msR ms m h) (acR rs af i) o.op with
      | some v => veq 20 v (vR rs i)
      | none => false
def lightOk (P : Program) (ops : Array Oper) (mk : List Nat) (rs : List Rec) (ms : List Mem) (af : AAct) (m : Mem) : Bool :=
  (List.range ops.size).all fun i => kdR rs i != 1 || match ops[i]? with
    | some o => memFree o.op || light1 P ops mk rs ms af m (hvs rs ops.size) i o
    | none => true
theorem light1_eq (P : Program) (ops : Array Oper) (mk : List Nat) (rs : List Rec) (ms : List Mem) (af : AAct) (m : Mem) (i : Nat) (o : Oper) : light1 P ops mk rs ms af m (hvs rs ops.size) i o =
    (List.range (cnt (fun j => kdR rs j == 2 && !befM mk j i) ops.size + 1)).all fun h =>
        decide (h < cnt (fun j => kdR rs j == 2 && befA (kdR rs) (flR ops mk rs) (befM mk) i j) ops.size) || match alight P (msR ms m h) (acR rs af i) o.op with
          | some v => veq 20 v (vR rs i)
          | none => false := by
  unfold light1 hvs
  rw [cnt_filter, cnt_filter]
def exDraw (P : Program) (X : Runs) (ops : Array Oper) (a : AAct) (m : Mem) : Option (AAct × Mem) :=
  if staticOk ops then
    match exTr P X ops ops.toList a m with
    | some (rs, ms, af) =>
      if chainOk ops (masks ops.toList []) ops.size rs && lateOk ops (masks ops.toList []) rs && lightOk P ops (masks ops.toList []) rs ms af m then some (af, msR ms m (cnt (fun j => kdR rs j == 2) ops.size)) else none
    | none => none
  else none
theorem all_range {n : Nat} {p : Nat → Bool} (h : (List.range n).all p = true) {i : Nat} (hi : i < n) : p i = true := List.all_eq_true.1 h i (List.mem_range.2 hi)
theorem cnt_lt (p : Nat → Bool) (i : Nat) : ∀ (n : Nat), i ≤ n → cnt (fun j => p j && decide (j < i)) n = cnt p i
  | 0, h => by obtain rfl : i = 0 := by omega
               rfl
  | n + 1, h => by
    by_cases hi : i = n + 1
    · subst hi
      exact cnt_congr _ fun j hj => by simp [hj]
    · simp only [cnt]
      rw [cnt_lt p i n (by omega)]
      simp; intro _; omega
theorem exDraw_ok {P : Program} {X : Runs} (hX : X.Ok P) (hm : P.follows .mixedOrders = true) {ops : Array Oper} {a : AAct} {m : Mem} {a' : AAct} {m' : Mem} (h : exDraw P X ops a m = some (a', m')) :
    ∀ t, AOps P ops (Region.schedule (P.follows .mixedOrders) ops t) a m fun a1 m1 => a1 = a' ∧ m1 = m' := by
  unfold exDraw at h
  split at h
  · rename_i hst
    simp only [staticOk, Bool.and_eq_true] at hst
    obtain ⟨⟨⟨hback, hdsts⟩, hnames⟩, hsel⟩ := hst
    split at h
    · rename_i rs ms af htr
      split at h
      · rename_i hdyn
        simp only [Bool.and_eq_true] at hdyn
        obtain ⟨⟨hchain, hlate⟩, hlight⟩ := hdyn
        cases h
        obtain ⟨t1, t2, t3, t4⟩ := exTr_spec hX _ _ _ _ _ _ htr
        have tat : ∀ i o, ops[i]? = some o → _ := fun i o ho => t4 i o (by simpa using ho)
        have hms : ∀ c x, ms[c]? = some x → msR ms m c = x := fun c x hx => by simp [msR, hx]
        have hlen : rs.length = ops.size := by simpa using t1
        have F : Facts P ops a (vR rs) (kdR rs) (flR ops (masks ops.toList []) rs) (msR ms m) (acR rs a') (befM (masks ops.toList [])) := by
          refine ⟨fun i j hij => masks_reach ops ops.toList [] (fun k => by simp) (fun i j h => by simp at h) i j hij, fun i o e ho he hb => ?_, fun i j s hi hj => ?_, fun i o s j ho hs hj hne => ?_, fun i o ho => ?_, fun i j hij hj hi2 hj2 hfl => ?_, fun j hj => ?_, fun i o s j ho hs hj hfl hlt k hk hkk => ?_, t3, fun i o ho => ?_, fun i o ho hk => ?_, fun i o ho hk => ?_, fun i o ho hk => ?_, fun i o ho hfl => ?_, fun i hi => ?_⟩
          · have := all_range hback (Array.getElem?_eq_some_iff.1 ho).1
            rw [ho] at this
            have h2 := List.all_eq_true.1 this e (by simpa using he)
            simpa [hb] using h2
          · have := all_range (all_range hdsts (dstOf_lt hi)) (dstOf_lt hj)
            rw [hi, hj] at this
            simpa using this
          · have := all_range hnames (Array.getElem?_eq_some_iff.1 ho).1
            rw [ho] at this
            have h2 := all_range (List.all_eq_true.1 this s hs) (dstOf_lt hj)
            simp only [hj, hne, ne_eq, not_true, decide_false, Bool.false_or, Bool.or_eq_true, Bool.and_eq_true, decide_eq_true_eq] at h2
            exact h2
          · have := List.all_eq_true.1 hsel o (by simpa using Array.mem_of_getElem? ho)
            exact isSel_ne (by simpa using this)
          · have := all_range hchain hj
            simp only [Bool.or_eq_true, bne_iff_ne, ne_eq, hj2, not_true, false_or] at this
            have hal : (List.range j).all (fun i => kdR rs i != 2 || befM (masks ops.toList []) j i) = true := by
              rcases this with h1 | h1
              · have h3 := hfl
                unfold flR at h3
                rw [h1, hj2] at h3
                simpa using h3
              · exact h1
            have h2 := all_range hal hij
            simpa [hi2] using h2
          · unfold flR at hj
            simp only [Bool.and_eq_true, beq_iff_eq] at hj
            exact hj.1.1
          · have h1 := all_range hlate (dstOf_lt hj)
            simp only [hfl, Bool.not_true, Bool.false_or] at h1
            have h2 := all_range h1 (Array.getElem?_eq_some_iff.1 ho).1
            have hc : (o.looksAt ops).contains s = true := by simpa using hs
            rw [ho, hj, decide_eq_false (by omega)] at h2
            simp only [Bool.false_or, hc, Bool.not_true] at h2
            have h3 := all_range h2 hk
            simpa [hkk] using h3
          · obtain ⟨mi, mi', q1, q2, q3, q4⟩ := tat i o ho
            refine ⟨q4, ?_⟩
            have := (ex1_ok hX q1).1
            have hn : ∀ i, i ≤ ops.size → (acR rs a' i).n = a.n := by
              intro i
              induction i with
              | zero => intro _; rw [t3]
              | succ i ih =>
                intro hi
                obtain ⟨_, _, _, _, _, r4⟩ := tat i ops[i] (Array.getElem?_eq_getElem (by omega))
                rw [r4, ← ih (by omega)]
                cases (ops[i]).dst <;> rfl
            have hlt : i < ops.size := (Array.getElem?_eq_some_iff.1 ho).1
            cases hq : o.dst with
            | none => rfl
            | some t => rw [hq] at this; simpa [dstOk, hn i (by omega)] using this
          · obtain ⟨mi, mi', q1, q2, q3, q4⟩ := tat i o ho
            obtain ⟨_, ⟨_, h2, h3, _⟩ | ⟨h2, _⟩ | ⟨h2, _⟩⟩ := ex1_ok hX q1
            · exact ⟨h2, h3⟩
            · omega
            · omega
          · obtain ⟨mi, mi', q1, q2, q3, q4⟩ := tat i o ho
            obtain ⟨_, ⟨h2, _⟩ | ⟨_, h2, h3, h4, _⟩ | ⟨h2, _⟩⟩ := ex1_ok hX q1
            · omega
            · refine ⟨h2, h3, fun hh hlo hhi => ?_⟩
              have := all_range hlight (Array.getElem?_eq_some_iff.1 ho).1
              simp only [Bool.or_eq_true, bne_iff_ne, ne_eq, hk, not_true, false_or, ho, light1_eq] at this
              rcases this with hmf | hall
              · rw [← memFree_light hmf (m := mi)]; exact h4
              · have h5 := all_range hall (Nat.lt_succ_of_le hhi)
                rcases Bool.or_eq_true _ _ ▸ h5 with h6 | h6
                · have := of_decide_eq_true h6; omega
                · split at h6
                  · rename_i u hu; rw [hu, veq_eq 20 _ _ h6]
                  · cases h6
            · omega
          · obtain ⟨mi, mi', q1, q2, q3, q4⟩ := tat i o ho
            have hlt : i < ops.size := (Array.getElem?_eq_some_iff.1 ho).1
            obtain ⟨_, ⟨h2, _⟩ | ⟨h2, _⟩ | ⟨_, h2, h3⟩⟩ := ex1_ok hX q1
            · omega
            · omega
            · refine ⟨h2, fun c hc => ?_, ?_⟩
              · rcases h3 with ⟨h4, _⟩ | ⟨_, _, _, _, _, h4, _⟩ | ⟨_, _, _, _, h4, _⟩
                · exact h4 c hc
                · rw [hc] at h4; cases h4
                · rw [hc] at h4; cases h4
              have e1 : hv (kdR rs) ops.size i = _ := cnt_lt (fun j => kdR rs j == 2) i ops.size (by omega)
              have e2 : cnt (fun j => kdR rs j == 2) (i + 1) = cnt (fun j => kdR rs j == 2) i + 1 := by simp [cnt, hk]
              rw [e1, hms _ _ q2, ← e2, hms _ _ q3]
              exact h3
          · obtain ⟨mi, mi', q1, q2, q3, q4⟩ := tat i o ho
            have hlt : i < ops.size := (Array.getElem?_eq_some_iff.1 ho).1
            unfold flR at hfl
            rw [ho] at hfl
            simp only [Bool.and_eq_true, beq_iff_eq] at hfl
            obtain ⟨⟨hk, hal⟩, _⟩ := hfl
            obtain ⟨_, ⟨h2, _⟩ | ⟨h2, _⟩ | ⟨_, h2, h3⟩⟩ := ex1_ok hX q1
            · omega
            · omega
            · obtain ⟨odst, oop, otype, opos, oafter, oguard⟩ := o
              unfold isAlloc at hal
              split at hal
              · rename_i e d heq
                cases heq
                have e1 : hv (kdR rs) ops.size i = _ := cnt_lt (fun j => kdR rs j == 2) i ops.size (by omega)
                have e2 : cnt (fun j => kdR rs j == 2) (i + 1) = cnt (fun j => kdR rs j == 2) i + 1 := by simp [cnt, hk]
                rw [e1, hms _ _ q2, ← e2, hms _ _ q3]
                rcases h3 with ⟨_, h4⟩ | ⟨_, _, _, _, _, h4, _⟩ | ⟨_, _, _, _, h4, _⟩
                · simp only [aheavy] at h4
                  split at h4
                  · rename_i z hz
                    unfold single abox at h4
                    split at h4
                    · rename_i hone
                      simp only [Option.map_some, Option.some.injEq, List.cons.injEq, Prod.mk.injEq, and_true] at h4
                      exact ⟨_, z, _, rfl, hz, hone, rfl, h4.1.symm, h4.2.symm⟩
                    · cases h4
                  · cases h4
                · cases h4
                · cases h4
              · cases hal
          · obtain ⟨mi, mi', q1, q2, q3, q4⟩ := tat i ops[i] (Array.getElem?_eq_getElem hi)
            obtain ⟨_, ⟨h2, _⟩ | ⟨h2, _⟩ | ⟨h2, _⟩⟩ := ex1_ok hX q1 <;> omega
        intro t
        have h0 : msR ms m 0 = m := hms 0 m t2
        have hf : acR rs a' ops.size = a' := by simp [acR, List.getElem?_eq_none (show rs.length ≤ ops.size by omega)]
        have := AOps.any hm F F.kinds t
        rw [h0, hf] at this
        exact this
      · cases h
    · cases h
  · cases h
end Go.Eng

/- Running code, calls, rounds. -/
namespace Go.Eng
open Go.RowKit
variable [Side]

def exIter (f : AAct → Mem → Option (Exit × AAct × Mem)) : Nat → AAct → Mem → Option (Exit × AAct × Mem)
  | 0, _, _ => none
  | k + 1, a, m => match f a m with
    | some (.normal, a', m') => exIter f k a' m'
    | r => r
def exJump : Code → Option Exit
  | .ret => some .ret
  | .exit id => some (.exit id)
  | .goto t => some (.goto t)
  | _ => none
def exAfter (kl : Nat) (a : AAct) (m : Mem) : Option (Exit × AAct × Mem) :=
  match m.h.get kl with
  | some (.loop st pend t n ps assign body dfr) =>
    if st = .busy then none else
    match pend with
    | none => some (.normal, a, m.setObj kl (.loop .exhausted none t n ps assign body dfr))
    | some c => (exJump c).map fun e => (e, a, m.setObj kl (.loop .exhausted (some c) t n ps assign body dfr))
  | _ => none
def exRange (P : Program) (X : Runs) (p : Option Nat) (g : Operand) (ps : Array Tmp) (assign body : Code) (a : AAct) (m : Mem) : Option (Exit × AAct × Mem) :=
  match a.ev g with
  | some (.func (.func f) q caps) =>
    if q.size = 0 ∧ callable P f = true then
      match p with
      | none => match X.call f (.func (.yield (m.nx + 1)) #[] #[] :: caps.toList) ((m.put .marks).put (.loop .ready none a.t a.n ps.toList assign body m.nx)) with
        | some (_, m2) => exAfter (m.nx + 1) { a with d := m.nx :: a.d } m2
        | none => none
      | some l0 => match m.h.get l0 with
        | some (.loop _ _ _ _ _ _ _ dfr) => match X.call f (.func (.yield m.nx) #[] #[] :: caps.toList) (m.put (.loop .ready none a.t a.n ps.toList assign body dfr)) with
          | some (_, m2) => exAfter m.nx a m2
          | none => none
        | _ => none
    else none
  | _ => none
def exCode (P : Program) (X : Runs) (lim : Nat) (p : Option Nat) : Code → AAct → Mem → Option (Exit × AAct × Mem)
  | .skip, a, m => some (.normal, a, m)
  | .region _ ops d, a, m => match (if d then exDraw P X ops a m else exOps P X ops ops.toList a m) with
    | some (a', m') => some (.normal, a', m')
    | none => none
  | .seq x y, a, m => match exCode P X lim p x a m with
    | some (.normal, a', m') => exCode P X lim p y a' m'
    | r => r
  | .cond c x y, a, m => match a.ev c with
    | some (.bool b) => if b then exCode P X lim p x a m else exCode P X lim p y a m
    | _ => none
  | .block id c, a, m => match exCode P X lim p c a m with
    | some (.exit i, a', m') => if i = id then some (.normal, a', m') else some (.exit i, a', m')
    | r => r
  | .loop c, a, m => exIter (exCode P X lim p c) lim a m
  | .rangeFunc g ps assign body, a, m => exRange P X p g ps assign body a m
  | .exit id, a, m => some (.exit id, a, m)
  | .ret, a, m => some (.ret, a, m)
  | .goto t, a, m => some (.goto t, a, m)
  | _, _, _ => none

section
variable {P : Program} {X : Runs} {lim : Nat}
/-- What has been run is what the rules say. -/
def Ends (e : Exit) (a : AAct) (m : Mem) : Exit → AAct → Mem → Prop := fun e1 a1 m1 => e1 = e ∧ a1 = a ∧ m1 = m
theorem exJump_ok {p : Option Nat} {c : Code} {e : Exit} (h : exJump c = some e) (a : AAct) (m : Mem) : ACode P p c a m (Ends e a m) := by
  unfold exJump at h
  split at h <;> cases h
  · exact ACode.ret ⟨rfl, rfl, rfl⟩
  · exact ACode.exit ⟨rfl, rfl, rfl⟩
  · exact ACode.goto ⟨rfl, rfl, rfl⟩
theorem exAfter_ok {p : Option Nat} {kl : Nat} {a a' : AAct} {m m' : Mem} {e : Exit} (h : exAfter kl a m = some (e, a', m')) : afterRange P p kl a (Ends e a' m') m := by
  unfold exAfter at h
  split at h
  · rename_i st pend t n ps assign body dfr hm
    split at h
    · cases h
    · rename_i hb
      refine ⟨st, pend, t, n, ps, assign, body, dfr, hm, hb, ?_⟩
      split at h
      · cases h; exact ⟨rfl, rfl, rfl⟩
      · obtain ⟨e1, h1, h2⟩ := Option.map_eq_some_iff.1 h
        cases h2
        exact exJump_ok h1 _ _
  · cases h
theorem exRange_ok (hX : X.Ok P) {p : Option Nat} {g : Operand} {ps : Array Tmp} {assign body : Code} {a a' : AAct} {m m' : Mem} {e : Exit} (h : exRange P X p g ps assign body a m = some (e, a', m')) :
    ACode P p (.rangeFunc g ps assign body) a m (Ends e a' m') := by
  unfold exRange at h
  split at h
  · rename_i f q caps hg
    split at h
    · rename_i hc
      obtain rfl := array1 hc.1
      split at h
      · split at h
        · rename_i v m2 hcall
          exact ACode.rangeOuter hg hc.2 (hX.call _ _ _ _ _ hcall) fun v' m2' ⟨h1, h2⟩ => by subst h2; exact exAfter_ok h
        · cases h
      · split at h
        · rename_i l0 st pend t n ps0 as0 bd0 dfr hl
          split at h
          · rename_i v m2 hcall
            exact ACode.rangeInner hg hc.2 hl (hX.call _ _ _ _ _ hcall) fun v' m2' ⟨h1, h2⟩ => by subst h2; exact exAfter_ok h
          · cases h
        · cases h
    · cases h
  · cases h
theorem exIter_ok {p : Option Nat} {c : Code} {f : AAct → Mem → Option (Exit × AAct × Mem)} (hf : ∀ a m e a' m', f a m = some (e, a', m') → ACode P p c a m (Ends e a' m')) : ∀ (k : Nat) (a : AAct) (m : Mem) (e : Exit) (a' : AAct) (m' : Mem), exIter f k a m = some (e, a', m') →
    ALoop P p c (Ends e a' m') k a m := by
  intro k
  induction k with
  | zero => intro a m e a' m' h; simp [exIter] at h
  | succ k ih =>
    intro a m e a' m' h
    simp only [exIter] at h
    have fall : ∀ {e1 : Exit} {a1 : AAct} {m1 : Mem}, f a m = some (e1, a1, m1) → e1 ≠ .normal → some (e1, a1, m1) = some (e, a', m') → ALoop P p c (Ends e a' m') (k + 1) a m := fun h1 hne h2 => by
      cases h2
      exact (hf _ _ _ _ _ h1).mono fun e2 a2 m2 ⟨x1, x2, x3⟩ => by
        subst x1; subst x2; subst x3
        cases e2 <;> first | exact absurd rfl hne | exact ⟨rfl, rfl, rfl⟩
    cases hfm : f a m with
    | none => rw [hfm] at h; cases h
    | some r =>
      obtain ⟨e1, a1, m1⟩ := r
      rw [hfm] at h
      cases e1 with
      | normal =>
        exact (hf _ _ _ _ _ hfm).mono fun e2 a2 m2 ⟨x1, x2, x3⟩ => by
          subst x1; subst x2; subst x3
          exact ih _ _ _ _ _ h
      | exit id => exact fall hfm (by simp) h
      | goto t => exact fall hfm (by simp) h
      | ret => exact fall hfm (by simp) h
      | panic ch => exact fall hfm (by simp) h
      | outgrown => exact fall hfm (by simp) h
theorem exCode_ok (hX : X.Ok P) (hm : P.follows .mixedOrders = true) {p : Option Nat} : ∀ (c : Code) (a : AAct) (m : Mem) (e : Exit) (a' : AAct) (m' : Mem), exCode P X lim p c a m = some (e, a', m') → ACode P p c a m (Ends e a' m') := by
  intro c
  induction c with
  | skip => intro a m e a' m' h; cases h; exact ACode.skip ⟨rfl, rfl, rfl⟩
  | region id ops d =>
    intro a m e a' m' h
    simp only [exCode] at h
    split at h
    · rename_i a1 m1 hr
      cases h
      cases d with
      | true =>
        simp only [if_true] at hr
        refine ACode.draws fun t => ?_
        exact (fun G B w a0 r Q hst hq => exDraw_ok hX hm hr t G B w a0 r Q hst fun aa mm a1 w1 G' ⟨x1, x2⟩ hf hs => hq aa mm a1 w1 G' ⟨rfl, x1, x2⟩ hf hs)
      | false =>
        simp only [Bool.false_eq_true, if_false] at hr
        have := exOps_ok hX ops.toList 0 a m _ _ (fun j => by simp) hr
        refine ACode.region ?_
        rw [List.range_eq_range', ← Array.length_toList]
        exact (fun G B w a0 r Q hst hq => this G B w a0 r Q hst fun aa mm a1 w1 G' ⟨x1, x2⟩ hf hs => hq aa mm a1 w1 G' ⟨rfl, x1, x2⟩ hf hs)
    · cases h
  | seq x y ihx ihy =>
    intro a m e a' m' h
    simp only [exCode] at h
    refine ACode.seq ?_
    cases hx : exCode P X lim p x a m with
    | none => rw [hx] at h; cases h
    | some r =>
      obtain ⟨e1, a1, m1⟩ := r
      rw [hx] at h
      have hx' := ihx _ _ _ _ _ hx
      cases e1 with
      | normal => exact hx'.mono fun e2 a2 m2 ⟨x1, x2, x3⟩ => by subst x1; subst x2; subst x3; exact ihy _ _ _ _ _ h
      | exit id => cases h; exact hx'.mono fun e2 a2 m2 ⟨x1, x2, x3⟩ => by subst x1; subst x2; subst x3; exact ⟨rfl, rfl, rfl⟩
      | goto t => cases h; exact hx'.mono fun e2 a2 m2 ⟨x1, x2, x3⟩ => by subst x1; subst x2; subst x3; exact ⟨rfl, rfl, rfl⟩
      | ret => cases h; exact hx'.mono fun e2 a2 m2 ⟨x1, x2, x3⟩ => by subst x1; subst x2; subst x3; exact ⟨rfl, rfl, rfl⟩
      | panic ch => cases h; exact hx'.mono fun e2 a2 m2 ⟨x1, x2, x3⟩ => by subst x1; subst x2; subst x3; exact ⟨rfl, rfl, rfl⟩
      | outgrown => cases h; exact hx'.mono fun e2 a2 m2 ⟨x1, x2, x3⟩ => by subst x1; subst x2; subst x3; exact ⟨rfl, rfl, rfl⟩
  | cond c x y ihx ihy =>
    intro a m e a' m' h
    simp only [exCode] at h
    split at h
    · rename_i b hc
      refine ACode.cond hc ?_
      cases b
      · exact ihy _ _ _ _ _ h
      · exact ihx _ _ _ _ _ h
    · cases h
  | block id c ih =>
    intro a m e a' m' h
    simp only [exCode] at h
    refine ACode.block ?_
    cases hx : exCode P X lim p c a m with
    | none => rw [hx] at h; cases h
    | some r =>
      obtain ⟨e1, a1, m1⟩ := r
      rw [hx] at h
      have hx' := ih _ _ _ _ _ hx
      cases e1 with
      | exit i =>
        refine hx'.mono fun e2 a2 m2 ⟨x1, x2, x3⟩ => ?_
        subst x1; subst x2; subst x3
        simp only [inBlock]
        simp only at h
        split at h <;> rename_i hi
        · rw [if_pos hi]; cases h; exact ⟨rfl, rfl, rfl⟩
        · rw [if_neg hi]; cases h; exact ⟨rfl, rfl, rfl⟩
      | normal => cases h; exact hx'.mono fun e2 a2 m2 ⟨x1, x2, x3⟩ => by subst x1; subst x2; subst x3; exact ⟨rfl, rfl, rfl⟩
      | goto t => cases h; exact hx'.mono fun e2 a2 m2 ⟨x1, x2, x3⟩ => by subst x1; subst x2; subst x3; exact ⟨rfl, rfl, rfl⟩
      | ret => cases h; exact hx'.mono fun e2 a2 m2 ⟨x1, x2, x3⟩ => by subst x1; subst x2; subst x3; exact ⟨rfl, rfl, rfl⟩
      | panic ch => cases h; exact hx'.mono fun e2 a2 m2 ⟨x1, x2, x3⟩ => by subst x1; subst x2; subst x3; exact ⟨rfl, rfl, rfl⟩
      | outgrown => cases h; exact hx'.mono fun e2 a2 m2 ⟨x1, x2, x3⟩ => by subst x1; subst x2; subst x3; exact ⟨rfl, rfl, rfl⟩
  | loop c ih => intro a m e a' m' h; exact ACode.loop lim (exIter_ok ih lim a m e a' m' h)
  | rangeFunc g ps assign body _ _ => intro a m e a' m' h; exact exRange_ok hX h
  | exit id => intro a m e a' m' h; cases h; exact ACode.exit ⟨rfl, rfl, rfl⟩
  | ret => intro a m e a' m' h; cases h; exact ACode.ret ⟨rfl, rfl, rfl⟩
  | goto t => intro a m e a' m' h; cases h; exact ACode.goto ⟨rfl, rfl, rfl⟩
  | scope c ih => intro a m e a' m' h; cases h
  | label t => intro a m e a' m' h; cases h
  | refuse why => intro a m e a' m' h; cases h

def exBody (P : Program) (X : Runs) (lim : Nat) (f : FuncId) (vs : List Value) (m : Mem) : Option (Value × Mem) :=
  match P.funcs[f]? with
  | some fn => match fn.body with
    | some c => if vs.length ≤ fn.ntmps then
        match exCode P X lim none c (entry vs fn.ntmps) m with
        | some (.normal, a1, m1) | some (.ret, a1, m1) => match takeMarks m1 a1.d with
          | some m2 => match aresults P m2 a1 fn with
            | some v => some (v, m2)
            | none => none
          | none => none
        | _ => none
      else none
    | none => none
  | none => none
def exRound (P : Program) (X : Runs) (lim : Nat) (l : Nat) (vs : List Value) (m : Mem) : Option (Value × Mem) :=
  match m.h.get l with
  | some (.loop .ready _ t n ps assign body _) =>
    if vs.length = ps.length ∧ (ps.all fun d => decide (d < n)) = true then
      match exCode P X lim (some l) assign { t := setAll t ps vs, n := n, d := [] } m with
      | some (.normal, a1, m1) => match m1.h.get l with
        | some (.loop .ready pend1 t1 n1 ps1 as1 bd1 df1) => match exCode P X lim (some l) body a1 (m1.setObj l (.loop .busy pend1 t1 n1 ps1 as1 bd1 df1)) with
          | some (e, _, m2) => match jumpOf e, m2.h.get l with
            | some j, some (.loop _ _ t2 n2 ps2 as2 bd2 df2) => some (.bool j.isNone, m2.setObj l (.loop (if j.isNone then .ready else .done) j t2 n2 ps2 as2 bd2 df2))
            | _, _ => none
          | none => none
        | _ => none
      | _ => none
    else none
  | _ => none
theorem exBody_ok (hX : X.Ok P) (hm : P.follows .mixedOrders = true) {f : FuncId} {vs : List Value} {m m' : Mem} {v : Value} (h : exBody P X lim f vs m = some (v, m')) : ACall P f vs m fun v1 m1 => v1 = v ∧ m1 = m' := by
  unfold exBody at h
  split at h
  · rename_i fn hf
    split at h
    · rename_i c hb
      split at h
      · rename_i hn
        have fin : ∀ {e : Exit} {a1 : AAct} {m1 : Mem}, (e = .normal ∨ e = .ret) → exCode P X lim none c (entry vs fn.ntmps) m = some (e, a1, m1) → (match takeMarks m1 a1.d with | some m2 => (match aresults P m2 a1 fn with | some v => some (v, m2) | none => none) | none => none) = some (v, m') →
            ACall P f vs m fun v1 m1 => v1 = v ∧ m1 = m' := fun he hc h => by
          refine ACall.of_code hf hb hn ((exCode_ok hX hm _ _ _ _ _ _ hc).mono fun e2 a2 m2 ⟨x1, x2, x3⟩ => ?_)
          subst x1; subst x2; subst x3
          refine ⟨he, ?_⟩
          split at h
          · rename_i m3 h3
            split at h
            · rename_i u h4; cases h; exact ⟨_, h3, _, h4, rfl, rfl⟩
            · cases h
          · cases h
        split at h
        · rename_i a1 m1 hc; exact fin (.inl rfl) hc h
        · rename_i a1 m1 hc; exact fin (.inr rfl) hc h
        · cases h
      · cases h
    · cases h
  · cases h
theorem exRound_ok (hX : X.Ok P) (hm : P.follows .mixedOrders = true) {l : Nat} {vs : List Value} {m m' : Mem} {v : Value} (h : exRound P X lim l vs m = some (v, m')) : ARound P l vs m fun v1 m1 => v1 = v ∧ m1 = m' := by
  unfold exRound at h
  split at h
  · rename_i pend t n ps assign body dfr hl
    split at h
    · rename_i hc
      split at h
      · rename_i a1 m1 h1
        split at h
        · rename_i pend1 t1 n1 ps1 as1 bd1 df1 hl1
          split at h
          · rename_i e a2 m2 h2
            split at h
            · rename_i j st2 pend2 t2 n2 ps2 as2 bd2 df2 hj hl2
              cases h
              refine ARound.mk hl hc.1 hc.2 ((exCode_ok hX hm _ _ _ _ _ _ h1).mono fun e' a' m' ⟨x1, x2, x3⟩ => ?_)
              subst x1; subst x2; subst x3
              refine ⟨pend1, t1, n1, ps1, as1, bd1, df1, hl1, (exCode_ok hX hm _ _ _ _ _ _ h2).mono fun e' a' m' ⟨x1, x2, x3⟩ => ?_⟩
              subst x1; subst x2; subst x3
              exact ⟨j, hj, st2, pend2, t2, n2, ps2, as2, bd2, df2, hl2, rfl, rfl⟩
            · cases h
          · cases h
        · cases h
      · cases h
    · cases h
  · cases h
/-- Runs of depth n; what has no Go body is handed in. -/
def exN (P : Program) (ext : FuncId → List Value → Mem → Option (Value × Mem)) (lim : Nat) : Nat → Runs
  | 0 => { call := fun _ _ _ => none, ext := ext, round := fun _ _ _ => none }
  | n + 1 => { call := fun f vs m => exBody P (exN P ext lim n) lim f vs m, ext := ext, round := fun l vs m => exRound P (exN P ext lim n) lim l vs m }
theorem exN_ok {ext : FuncId → List Value → Mem → Option (Value × Mem)} (he : ∀ f vs m v m', ext f vs m = some (v, m') → AInv P f vs m fun v1 m1 => v1 = v ∧ m1 = m') (hm : P.follows .mixedOrders = true) : ∀ n, (exN P ext lim n).Ok P
  | 0 => ⟨fun _ _ _ _ _ h => (by cases h), he, fun _ _ _ _ _ h => (by cases h)⟩
  | n + 1 => ⟨fun _ _ _ _ _ h => exBody_ok (exN_ok he hm n) hm h, he, fun _ _ _ _ _ h => exRound_ok (exN_ok he hm n) hm h⟩
end
end Go.Eng

/- Runs with contracts handed in; contracts of the walk kit as abstract calls. -/
namespace Go.Eng
open Go.RowKit
theorem R.below {G : Ctx} {B : Prot} {m : Mem} {w w' : World} (h : R G B m w) (hb : Below w.heap.size w w') : R G B m w' :=
  ⟨fun k b d hk => Nat.lt_of_lt_of_le (h.dom k b d hk) hb.size, fun k b d hk => let ⟨o, ho, r⟩ := h.obj k b d hk; ⟨o, ho, r.world (hb.block b (h.dom k b d hk))⟩, h.alias, h.top, h.fresh, fun k hk => Nat.lt_of_lt_of_le (h.low k hk) hb.size⟩
theorem From.of_below {G : Ctx} {B : Prot} {m : Mem} {w w' : World} (h : R G B m w) (hb : Below w.heap.size w w') : From G B w G w' := ⟨Grow.refl G w, Keep.of_below hb h.low⟩
def emptyCtx : Ctx := { f := fun _ => none, sz := fun _ => 0 }
def emptyMem : Mem := { h := .leaf, gs := .leaf, nx := 0 }
theorem R.empty (w : World) : R emptyCtx (.to w.heap.size) emptyMem w :=
  ⟨fun k b d (h : none = some (b, d)) => (nomatch h), fun k b d (h : none = some (b, d)) => (nomatch h), fun k j b d d' (h : none = some (b, d)) => (nomatch h),
    fun k cs g wr h => absurd h (by rw [show emptyMem.h.get k = none from T.get_leaf k]; simp),
    fun k _ => ⟨T.get_leaf k, T.get_leaf k⟩, fun k hk => hk⟩
/-- A closed run: what the function hands back, from whatever world. -/
theorem closed_calls {P : Program} {f : FuncId} {u : Value} {T : Value → Mem → Prop} (h : @ACall noSide P f [] emptyMem T) (hT : ∀ v m, T v m → ∀ G v', VRel G v v' → v' = u) (w : World) :
    Calls P f #[] w fun e w' => e = .returned u ∧ Below w.heap.size w w' := by
  refine (h emptyCtx (.to w.heap.size) w [] (R.empty w) (noSide_φ _ _ _) .nil).mono ?_
  rintro e w' ⟨v', v, G', m', rfl, hT', hf, _, hv⟩
  exact ⟨by rw [hT v m' hT' G' v' hv], hf.below.below⟩
section
variable [Side] {P : Program}
theorem ACall.of_calls {f : FuncId} {vs : List Value} {m : Mem} {v : Value} (hv : ∀ G, VRel G v v)
    (h : ∀ (G : Ctx) (B : Prot) (w : World) (args' : List Value), R G B m w → Side.φ G B w → VL G vs args' → Calls P f args'.toArray w fun e w' => e = .returned v ∧ Below w.heap.size w w') : ACall P f vs m fun v1 m1 => v1 = v ∧ m1 = m :=
  fun G B w args' hR hφ hvl => (h G B w args' hR hφ hvl).mono fun e w' ⟨he, hb⟩ => ⟨v, v, G, m, he, ⟨rfl, rfl⟩, From.of_below hR hb, hR.below hb, hv G⟩
/-- Runs of depth n; what 'over' tells is taken from there. -/
def exM (P : Program) (ext over : FuncId → List Value → Mem → Option (Value × Mem)) (lim : Nat) : Nat → Runs
  | 0 => { call := over, ext := ext, round := fun _ _ _ => none }
  | n + 1 => { call := fun f vs m => match over f vs m with | some r => some r | none => exBody P (exM P ext over lim n) lim f vs m, ext := ext, round := fun l vs m => exRound P (exM P ext over lim n) lim l vs m }
theorem exM_ok {lim : Nat} {ext over : FuncId → List Value → Mem → Option (Value × Mem)} (he : ∀ f vs m v m', ext f vs m = some (v, m') → AInv P f vs m fun v1 m1 => v1 = v ∧ m1 = m')
    (ho : ∀ f vs m v m', over f vs m = some (v, m') → ACall P f vs m fun v1 m1 => v1 = v ∧ m1 = m') (hm : P.follows .mixedOrders = true) : ∀ n, (exM P ext over lim n).Ok P
  | 0 => ⟨ho, he, fun _ _ _ _ _ h => (by cases h)⟩
  | n + 1 => ⟨fun f vs m v m' h => by
      simp only [exM] at h
      split at h
      · rename_i r hr; cases h; exact ho _ _ _ _ _ hr
      · exact exBody_ok (exM_ok he ho hm n) hm h, he, fun _ _ _ _ _ h => exRound_ok (exM_ok he ho hm n) hm h⟩
/-- A run, and what comes behind. -/
theorem ACode.seqRun {X : Runs} (hX : X.Ok P) (hm : P.follows .mixedOrders = true) {lim : Nat} {p : Option Nat} {x y : Code} {a a' : AAct} {m m' : Mem} {S : Exit → AAct → Mem → Prop}
    (h : exCode P X lim p x a m = some (.normal, a', m')) (hy : ACode P p y a' m' S) : ACode P p (.seq x y) a m S :=
  ACode.seq ((exCode_ok hX hm x a m _ a' m' h).mono fun e a1 m1 ⟨x1, x2, x3⟩ => by subst x1; subst x2; subst x3; exact hy)
theorem ACode.run {X : Runs} (hX : X.Ok P) (hm : P.follows .mixedOrders = true) {lim : Nat} {p : Option Nat} {x : Code} {a a' : AAct} {m m' : Mem} {e : Exit} {S : Exit → AAct → Mem → Prop}
    (h : exCode P X lim p x a m = some (e, a', m')) (hS : S e a' m') : ACode P p x a m S :=
  (exCode_ok hX hm x a m _ a' m' h).mono fun e1 a1 m1 ⟨x1, x2, x3⟩ => by subst x1; subst x2; subst x3; exact hS
end
/-- Parts of a code. -/
def cOf (f : Func) : Code := match f.body with | some c => c | none => .skip
def sq1 : Code → Code | .seq x _ => x | _ => .skip
def sq2 : Code → Code | .seq _ y => y | _ => .skip
def bk : Code → Code | .block _ c => c | _ => .skip
def lp : Code → Code | .loop c => c | _ => .skip
def cn : Code → Operand | .cond c _ _ => c | _ => .const .nilIface
def cn1 : Code → Code | .cond _ x _ => x | _ => .skip
def cn2 : Code → Code | .cond _ _ y => y | _ => .skip
def rA (o : Option (Exit × AAct × Mem)) : AAct := match o with | some (_, a, _) => a | none => { t := .leaf, n := 0, d := [] }
def rM (o : Option (Exit × AAct × Mem)) : Mem := match o with | some (_, _, m) => m | none => emptyMem
def isN (o : Option (Exit × AAct × Mem)) : Bool := match o with | some (.normal, _, _) => true | _ => false
def isR (o : Option (Exit × AAct × Mem)) : Bool := match o with | some (.ret, _, _) => true | _ => false
def isE (o : Option (Exit × AAct × Mem)) (i : Nat) : Bool := match o with | some (.exit j, _, _) => j == i | _ => false
theorem isN_eq {o : Option (Exit × AAct × Mem)} (h : isN o = true) : o = some (.normal, rA o, rM o) := by
  unfold isN at h; split at h <;> first | rfl | cases h
theorem isR_eq {o : Option (Exit × AAct × Mem)} (h : isR o = true) : o = some (.ret, rA o, rM o) := by
  unfold isR at h; split at h <;> first | rfl | cases h
theorem isE_eq {o : Option (Exit × AAct × Mem)} {i : Nat} (h : isE o i = true) : o = some (.exit i, rA o, rM o) := by
  unfold isE at h
  split at h
  · rename_i j a m; obtain rfl : j = i := by simpa using h
    rfl
  · cases h
section
variable [Side] {P : Program} {X : Runs} {lim : Nat} {p : Option Nat} {a : AAct} {m : Mem} {S : Exit → AAct → Mem → Prop}
theorem ACode.eqc {c c' : Code} (e : c = c') (h : ACode P p c' a m S) : ACode P p c a m S := e ▸ h
theorem ACode.seqO (hX : X.Ok P) (hm : P.follows .mixedOrders = true) {x y : Code} (o : Option (Exit × AAct × Mem)) (h : exCode P X lim p x a m = o) (hn : isN o = true) (hy : ACode P p y (rA o) (rM o) S) : ACode P p (.seq x y) a m S :=
  ACode.seqRun hX hm (h.trans (isN_eq hn)) hy
theorem ACode.runN (hX : X.Ok P) (hm : P.follows .mixedOrders = true) {x : Code} (o : Option (Exit × AAct × Mem)) (h : exCode P X lim p x a m = o) (hn : isN o = true) (hS : S .normal (rA o) (rM o)) : ACode P p x a m S :=
  ACode.run hX hm (h.trans (isN_eq hn)) hS
theorem ACode.runR (hX : X.Ok P) (hm : P.follows .mixedOrders = true) {x : Code} (o : Option (Exit × AAct × Mem)) (h : exCode P X lim p x a m = o) (hn : isR o = true) (hS : S .ret (rA o) (rM o)) : ACode P p x a m S :=
  ACode.run hX hm (h.trans (isR_eq hn)) hS
theorem ACode.runE (hX : X.Ok P) (hm : P.follows .mixedOrders = true) {x : Code} {i : Nat} (o : Option (Exit × AAct × Mem)) (h : exCode P X lim p x a m = o) (hn : isE o i = true) (hS : S (.exit i) (rA o) (rM o)) : ACode P p x a m S :=
  ACode.run hX hm (h.trans (isE_eq hn)) hS
theorem AOps.mono {ops : Array Oper} {l : List Nat} {S S' : AAct → Mem → Prop} (h : AOps P ops l a m S) (hS : ∀ a m, S a m → S' a m) : AOps P ops l a m S' :=
  fun G B w a' r Q hs hq => h G B w a' r Q hs fun aa mm a1 w1 G' h1 => hq aa mm a1 w1 G' (hS _ _ h1)
theorem AOps.callc {ops : Array Oper} {l : List Nat} {i : Nat} {S : AAct → Mem → Prop} {o : Oper} {c : Call} {fo : Operand} {f : FuncId} {vs : List Value} {T : Value → Mem → Prop} (ho : ops[i]? = some o) (hop : o.op = .call c) (hw : awanted ops a o = true) (hcal : c.callee = .value fo) (hf : a.ev fo = some (.func (.func f) #[] #[]))
    (hvs : a.evs c.args.toList = some vs) (hd : dstOk a o.dst = true) (hc : callable P f = true) (hT : ACall P f vs m T) (h : ∀ v m', T v m' → AOps P ops l (a.put o.dst v) m' S) : AOps P ops (i :: l) a m S :=
  AOps.call (caps := #[]) ho hop hw hcal hf hvs hd (by have := AInv.of_call hc hT; simpa using this) h
/-- The rest of a region. -/
theorem AOps.rest (hX : X.Ok P) {ops : Array Oper} {k n : Nat} {S : AAct → Mem → Prop} (o : Option (AAct × Mem)) (hn : (ops.toList.drop k).length = n) (h : exOps P X ops (ops.toList.drop k) a m = o) (hs : o.isSome = true)
    (hS : ∀ a1 m1, o = some (a1, m1) → S a1 m1) : AOps P ops (List.range' k n) a m S := by
  cases o with
  | none => cases hs
  | some q =>
    rw [← hn]
    exact (exOps_ok hX (ops.toList.drop k) k a m q.1 q.2 (fun j => by simp) h).mono fun a1 m1 ⟨x1, x2⟩ => by subst x1; subst x2; exact hS _ _ rfl
theorem some_getD {α : Type} {o : Option α} {d : α} (h : o.isSome = true) : o = some (o.getD d) := by cases o <;> simp_all
theorem nodefer {o : Oper} (h : (match o.op with | .defer _ => false | _ => true) = true) : ∀ c, o.op ≠ .defer c := by
  intro c hc; rw [hc] at h; cases h
def nild (a : AAct) : Bool := match a.d with | [] => true | _ => false
theorem takeMarks_nil {a : AAct} {m : Mem} (h : nild a = true) : takeMarks m a.d = some m := by
  unfold nild at h
  split at h
  · rename_i hd; rw [hd]; rfl
  · cases h
end
def bo (o : Option Value) : Bool := match o with | some (.bool b) => b | _ => false
def isB (o : Option Value) : Bool := match o with | some (.bool _) => true | _ => false
theorem isB_eq {o : Option Value} (h : isB o = true) : o = some (.bool (bo o)) := by
  unfold isB at h; split at h <;> first | rfl | cases h
end Go.Eng
