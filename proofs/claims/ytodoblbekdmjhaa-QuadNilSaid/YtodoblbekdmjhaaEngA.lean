/- Operations on plain values; tokens and expressions: what stands for values that are not known. -/
import Derived.RangeFuncIn
import Derived.RangeFuncLeaves
import Derived.RangeFuncCalls
import Derived.RangeFuncRecord
import Derived.OrdersIn
import Derived.Below
import Derived.WalkKit
import Derived.KernelRfl
import Derived.LoopNIn
import Derived.Laws.CopyOwn
import Derived.Laws.AppendOwn
import Derived.Laws.RangeAny
set_option linter.unusedVariables false
set_option linter.unusedSimpArgs false
set_option linter.unusedSectionVars false
namespace Go.Eng
open Go.RowKit
def aintV (op : BinOp) (k : IntKind) (x y : Int) : Option Value :=
  match op with
  | .add => some (.int k (k.wrap (x + y)))
  | .sub => some (.int k (k.wrap (x - y)))
  | .mul => some (.int k (k.wrap (x * y)))
  | .quo => if y = 0 then none else some (.int k (k.wrap (x.tdiv y)))
  | .rem => if y = 0 then none else some (.int k (x.tmod y))
  | .and => some (.int k (k.wrap (BitVec.ofInt k.bits x &&& BitVec.ofInt k.bits y).toNat))
  | .or => some (.int k (k.wrap (BitVec.ofInt k.bits x ||| BitVec.ofInt k.bits y).toNat))
  | .xor => some (.int k (k.wrap (BitVec.ofInt k.bits x ^^^ BitVec.ofInt k.bits y).toNat))
  | .andNot => some (.int k (k.wrap (BitVec.ofInt k.bits x &&& ~~~ BitVec.ofInt k.bits y).toNat))
  | .eql => some (.bool (x == y))
  | .neq => some (.bool (x != y))
  | .lss => some (.bool (x < y))
  | .leq => some (.bool (x ≤ y))
  | .gtr => some (.bool (x > y))
  | .geq => some (.bool (x ≥ y))
  | _ => none
def astrV (op : BinOp) (x y : ByteArray) : Option Value :=
  match op with
  | .add => if ((x.size + y.size : Nat) : Int) > IntKind.i64.max then none else some (.string (x ++ y))
  | .eql => some (.bool (x.toList == y.toList))
  | .neq => some (.bool !(x.toList == y.toList))
  | .lss => some (.bool (Op.bytesLess x.toList y.toList))
  | .leq => some (.bool (Op.bytesLess x.toList y.toList || x.toList == y.toList))
  | .gtr => some (.bool !(Op.bytesLess x.toList y.toList || x.toList == y.toList))
  | .geq => some (.bool !(Op.bytesLess x.toList y.toList))
  | _ => none
def ashV (op : BinOp) (k : IntKind) (x y : Int) : Option Value :=
  if y < 0 then none else
  match op with
  | .shl => some (.int k (k.wrap (x * 2 ^ min y.toNat k.bits)))
  | .shr => some (.int k (x.fdiv (2 ^ min y.toNat k.bits)))
  | _ => none

/-! ### 1. Equal values -/
def veqL (eq : Value → Value → Bool) : List Value → List Value → Bool
  | [], [] => true
  | x :: l, y :: r => eq x y && veqL eq l r
  | _, _ => false
def veq : Nat → Value → Value → Bool
  | 0, _, _ => false
  | n + 1, x, y =>
    match x, y with
    | .bool a, .bool b => a == b
    | .int j a, .int k b => decide (j = k) && decide (a = b)
    | .string a, .string b => decide (a.data.toList = b.data.toList)
    | .pointer a, .pointer b => decide (a = b)
    | .slice a i j, .slice b k l => decide (a = b) && decide (i = k) && decide (j = l)
    | .map a, .map b => decide (a = b)
    | .chan a, .chan b => decide (a = b)
    | .iface a x, .iface b y => decide (a = b) && veq n x y
    | .nilFunc, .nilFunc | .nilIface, .nilIface => true
    | .agg a, .agg b => veqL (veq n) a.toList b.toList
    | .tuple a, .tuple b => veqL (veq n) a.toList b.toList
    | .func f p a, .func g q b => decide (f = g) && veqL (veq n) p.toList q.toList && veqL (veq n) a.toList b.toList
    | _, _ => false
theorem veqL_eq {eq : Value → Value → Bool} (h : ∀ x y, eq x y = true → x = y) : ∀ {a b : List Value}, veqL eq a b = true → a = b
  | [], [], _ => rfl
  | x :: l, y :: r, hh => by
    simp only [veqL, Bool.and_eq_true] at hh
    rw [h x y hh.1, veqL_eq h hh.2]
  | [], _ :: _, hh => by simp [veqL] at hh
  | _ :: _, [], hh => by simp [veqL] at hh
theorem veq_eq : ∀ (n : Nat) (x y : Value), veq n x y = true → x = y := by
  intro n
  induction n with
  | zero => intro x y h; simp [veq] at h
  | succ n ih =>
    intro x y h
    simp only [veq] at h
    split at h <;> (try contradiction) <;> (try simp only [Bool.and_eq_true, decide_eq_true_eq, beq_iff_eq] at h)
    · rw [h]
    · rw [h.1, h.2]
    · rename_i a b
      congr 1
      obtain ⟨a⟩ := a
      obtain ⟨b⟩ := b
      congr 1
      exact Array.ext' h
    · rw [h]
    · rw [h.1.1, h.1.2, h.2]
    · rw [h]
    · rw [h]
    · rw [h.1, ih _ _ h.2]
    · rfl
    · rfl
    · congr 1; apply Array.ext'; exact veqL_eq ih h
    · congr 1; apply Array.ext'; exact veqL_eq ih h
    · rename_i f p a g q b
      obtain ⟨⟨h1, h2⟩, h3⟩ := h
      rw [h1]
      congr 1
      · apply Array.ext'; exact veqL_eq ih h2
      · apply Array.ext'; exact veqL_eq ih h3

/-! ### Tokens -/
/-- A token's number tells its type. -/
def tokTy (k : Nat) (v : Value) : Bool :=
  match k % 8, v with
  | 0, .bool _ => true
  | 1, .string _ => true
  | 2, .int .i64 _ => true
  | 4, .slice _ _ _ => true
  | 3, v => v.oneCell'
  | _, _ => false
theorem tokTy_one {k : Nat} {v : Value} (h : tokTy k v = true) : v.oneCell' = true := by
  unfold tokTy at h
  split at h <;> first | rfl | exact h | cases h
def opCode : BinOp → Nat
  | .add => 1 | .sub => 2 | .mul => 3 | .and => 4 | .or => 5 | .xor => 6 | .andNot => 7
  | .eql => 11 | .neq => 12 | .lss => 13 | .leq => 14 | .gtr => 15 | .geq => 16
  | _ => 0
def codeOp : Nat → Option BinOp
  | 1 => some .add | 2 => some .sub | 3 => some .mul | 4 => some .and | 5 => some .or | 6 => some .xor | 7 => some .andNot
  | 11 => some .eql | 12 => some .neq | 13 => some .lss | 14 => some .leq | 15 => some .gtr | 16 => some .geq
  | _ => none
def cmpOp : BinOp → Bool
  | .eql | .neq | .lss | .leq | .gtr | .geq => true
  | _ => false
def symBin (op : BinOp) (a b : Value) : Option Value :=
  match a, b with
  | .int .i64 x, .int .i64 y => aintV op .i64 x y
  | .string x, .string y => if cmpOp op then astrV op x y else none
  | .bool x, .bool y => match op with | .eql => some (.bool (x == y)) | .neq => some (.bool (!(x == y))) | _ => none
  | _, _ => none
def symUn (c : Nat) (a : Value) : Option Value :=
  match c, a with
  | 100, .bool b => some (.bool !b)
  | 101, .string s => some (goInt s.size)
  | 101, .slice _ n _ => some (goInt n)
  | 102, .int .i64 n => some (.int .i64 (IntKind.i64.wrap (0 - n)))
  | 103, .int .i64 n => some (.int .i64 (IntKind.i64.wrap n))
  | _, _ => none
/-- What an expression over tokens is. -/
def symEv (σ : Nat → Value) : Nat → Value → Option Value
  | 0, _ => none
  | f + 1, v =>
    match v with
    | .chan (some k) => if tokTy k (σ k) then some (σ k) else none
    | .iface c (.agg xs) => match xs.toList with
      | [x] => match symEv σ f x with
        | some a => symUn c a
        | none => none
      | [x, y] => match symEv σ f x, symEv σ f y with
        | some a, some b => match codeOp c with
          | some op => symBin op a b
          | none => none
        | _, _ => none
      | _ => none
    | .int k n => some (.int k n)
    | .bool b => some (.bool b)
    | .string s => some (.string s)
    | _ => none
theorem symEv_mono {σ : Nat → Value} : ∀ (f : Nat) (v u : Value), symEv σ f v = some u → ∀ g, f ≤ g → symEv σ g v = some u := by
  intro f
  induction f with
  | zero => intro v u h; simp [symEv] at h
  | succ f ih =>
    intro v u h g hg
    obtain ⟨g, rfl⟩ : ∃ g', g = g' + 1 := ⟨g - 1, by omega⟩
    have hle : f ≤ g := by omega
    simp only [symEv] at h ⊢
    split at h
    · exact h
    · rename_i c xs
      split at h
      · rename_i x hx
        skip
        split at h
        · rename_i a ha; rw [ih _ _ ha g hle]; exact h
        · cases h
      · rename_i x y hx
        skip
        split at h
        · rename_i a b ha hb; rw [ih _ _ ha g hle, ih _ _ hb g hle]; exact h
        · cases h
      · cases h
    · exact h
    · exact h
    · exact h
    · cases h
theorem symEv_det {σ : Nat → Value} {f g : Nat} {v u w : Value} (h : symEv σ f v = some u) (k : symEv σ g v = some w) : u = w := by
  have h1 := symEv_mono f v u h (f + g) (by omega)
  have h2 := symEv_mono g v w k (f + g) (by omega)
  rw [h1] at h2; exact Option.some.inj h2
end Go.Eng

/- The abstract memory: a trie from block numbers to abstract objects; the relation between abstract and real values, memories. -/
namespace Go.Eng
open Go.RowKit

/-! ### 1. A trie -/
inductive T (α : Type) where
  | leaf
  | node (l : T α) (v : Option α) (r : T α)
namespace T
variable {α : Type}
def get : T α → Nat → Option α
  | leaf, _ => none
  | node _ v _, 0 => v
  | node l _ r, n + 1 => if n % 2 = 0 then l.get (n / 2) else r.get (n / 2)
def setF (v : Option α) : Nat → T α → Nat → T α
  | 0, t, _ => t
  | _ + 1, leaf, 0 => node leaf v leaf
  | _ + 1, node l _ r, 0 => node l v r
  | f + 1, leaf, n + 1 => if n % 2 = 0 then node (setF v f leaf (n / 2)) none leaf else node leaf none (setF v f leaf (n / 2))
  | f + 1, node l x r, n + 1 => if n % 2 = 0 then node (setF v f l (n / 2)) x r else node l x (setF v f r (n / 2))
def set (t : T α) (n : Nat) (v : Option α) : T α := setF v (n + 1) t n
theorem get_leaf (k : Nat) : (leaf : T α).get k = none := by unfold get; rfl
theorem get_setF (v : Option α) : ∀ (f : Nat) (t : T α) (n k : Nat), n < f → (setF v f t n).get k = if k = n then v else t.get k
  | 0, _, _, _, h => by omega
  | f + 1, t, 0, k, _ => by
    cases t <;> cases k <;> simp [setF, get, get_leaf]
  | f + 1, t, n + 1, k, h => by
    have ih := fun (t : T α) (k : Nat) => get_setF v f t (n / 2) k (by omega)
    cases t with
    | leaf =>
      cases k with
      | zero => by_cases hn : n % 2 = 0 <;> simp [setF, get, hn]
      | succ k =>
        by_cases hn : n % 2 = 0 <;> by_cases hk : k % 2 = 0 <;> simp [setF, get, hn, hk, ih, get_leaf]
        · by_cases hkn : k = n
          · subst hkn; simp
          · rw [if_neg (by omega), if_neg hkn]
        · intro hkn; omega
        · intro hkn; omega
        · by_cases hkn : k = n
          · subst hkn; simp
          · rw [if_neg (by omega), if_neg hkn]
    | node l x r =>
      cases k with
      | zero => by_cases hn : n % 2 = 0 <;> simp [setF, get, hn]
      | succ k =>
        by_cases hn : n % 2 = 0 <;> by_cases hk : k % 2 = 0 <;> simp [setF, get, hn, hk, ih]
        · by_cases hkn : k = n
          · subst hkn; simp
          · rw [if_neg (by omega), if_neg hkn]
        · intro hkn; omega
        · intro hkn; omega
        · by_cases hkn : k = n
          · subst hkn; simp
          · rw [if_neg (by omega), if_neg hkn]
theorem get_set (t : T α) (n k : Nat) (v : Option α) : (t.set n v).get k = if k = n then v else t.get k := get_setF v (n + 1) t n k (by omega)
end T

/-! ### 2. Values -/
structure Ctx where
  f : Nat → Option (Nat × Nat)
  sz : Nat → Nat
  /-- What the tokens stand for: '.chan (some k)', abstractly, is whatever value of one cell. -/
  sym : Nat → Value := fun _ => undef

/-- Abstract value, real value. A slice's third number is, abstractly, how many cells an element has. -/
inductive VRel (G : Ctx) : Value → Value → Prop
  | bool (b : Bool) : VRel G (.bool b) (.bool b)
  | int (k : IntKind) (n : Int) : VRel G (.int k n) (.int k n)
  | string (s : ByteArray) : VRel G (.string s) (.string s)
  | nilPtr : VRel G (.pointer none) (.pointer none)
  | ptr {k off b d : Nat} (h : G.f k = some (b, d)) : VRel G (.pointer (some ⟨k, off, none⟩)) (.pointer (some ⟨b, d + off, none⟩))
  | nilSlice : VRel G (.slice none 0 0) (.slice none 0 0)
  | slice {k off b d n es c : Nat} (h : G.f k = some (b, d)) (hn : n ≤ c) (hc : d + off + c * es ≤ G.sz b) : VRel G (.slice (some ⟨k, off, none⟩) n es) (.slice (some ⟨b, d + off, none⟩) n c)
  | slice0 (a a' : Addr) (es : Nat) : VRel G (.slice (some a) 0 es) (.slice (some a') 0 0)
  | nilMap : VRel G (.map none) (.map none)
  | map {k b : Nat} (h : G.f k = some (b, 0)) : VRel G (.map (some k)) (.map (some b))
  | func (f : FuncId) (cs cs' : Array Value) (hs : cs.size = cs'.size) (h : ∀ (i : Nat) (x y : Value), cs[i]? = some x → cs'[i]? = some y → VRel G x y) : VRel G (.func (.func f) #[] cs) (.func (.func f) #[] cs')
  | yield {l b : Nat} (h : G.f l = some (b, 0)) : VRel G (.func (.yield l) #[] #[]) (.func (.yield b) #[] #[])
  | nilFunc : VRel G .nilFunc .nilFunc
  | nilIface : VRel G .nilIface .nilIface
  | tok (k : Nat) (v' : Value) (h : tokTy k v' = true) (e : G.sym k = v') : VRel G (.chan (some k)) v'
  | expr (c : TypeId) (x v' : Value) (f : Nat) (h : v'.oneCell' = true) (e : symEv G.sym f (.iface c x) = some v') : VRel G (.iface c x) v'
  | agg (cs cs' : Array Value) (hs : cs.size = cs'.size) (h : ∀ (i : Nat) (x y : Value), cs[i]? = some x → cs'[i]? = some y → VRel G x y) : VRel G (.agg cs) (.agg cs')
  | tuple (cs cs' : Array Value) (hs : cs.size = cs'.size) (h : ∀ (i : Nat) (x y : Value), cs[i]? = some x → cs'[i]? = some y → VRel G x y) : VRel G (.tuple cs) (.tuple cs')

structure Ext (G G' : Ctx) : Prop where
  f : ∀ k p, G.f k = some p → G'.f k = some p
  sz : ∀ k p, G.f k = some p → G'.sz p.1 = G.sz p.1
  sym : G'.sym = G.sym
theorem Ext.refl (G : Ctx) : Ext G G := ⟨fun _ _ h => h, fun _ _ _ => rfl, rfl⟩
theorem Ext.trans {a b c : Ctx} (h : Ext a b) (k : Ext b c) : Ext a c := ⟨fun x p hx => k.f x p (h.f x p hx), fun x p hx => (k.sz x p (h.f x p hx)).trans (h.sz x p hx), k.sym.trans h.sym⟩

theorem VRel.mono {G G' : Ctx} (e : Ext G G') {v v' : Value} (h : VRel G v v') : VRel G' v v' := by
  induction h with
  | bool b => exact .bool b
  | int k n => exact .int k n
  | string s => exact .string s
  | nilPtr => exact .nilPtr
  | ptr h => exact .ptr (e.f _ _ h)
  | nilSlice => exact .nilSlice
  | slice h hn hc => exact .slice (e.f _ _ h) hn (by rw [e.sz _ _ h]; exact hc)
  | slice0 a a' es => exact .slice0 a a' es
  | nilMap => exact .nilMap
  | map h => exact .map (e.f _ _ h)
  | func f cs cs' hs _ ih => exact .func f cs cs' hs ih
  | yield h => exact .yield (e.f _ _ h)
  | nilFunc => exact .nilFunc
  | nilIface => exact .nilIface
  | tok k v' h q => exact .tok k v' h (by rw [e.sym]; exact q)
  | expr c x v' f h q => exact .expr c x v' f h (by rw [e.sym]; exact q)
  | agg cs cs' hs _ ih => exact .agg cs cs' hs ih
  | tuple cs cs' hs _ ih => exact .tuple cs cs' hs ih

theorem VRel.one {G : Ctx} {v v' : Value} (h : VRel G v v') : v'.oneCell' = v.oneCell' := by cases h <;> first | rfl | assumption | exact tokTy_one (by assumption)
theorem VRel.undef (G : Ctx) : VRel G Go.undef Go.undef := .tuple #[] #[] rfl (fun i x y hx => by simp at hx)

/-! ### 3. Memory -/
/-- Blocks that must not turn. -/
structure Prot where
  p : Nat → Prop
def Prot.free (B : Prot) (b : Nat) : Prop := ¬ B.p b
def Prot.to (n : Nat) : Prot := ⟨fun k => k < n⟩
structure Keep (B : Prot) (w w' : World) : Prop where
  os : w'.os = w.os
  tape : w'.tape = w.tape
  output : w'.output = w.output
  size : w.heap.size ≤ w'.heap.size
  block : ∀ k, B.p k → w'.heap[k]? = w.heap[k]?
theorem Keep.refl (B : Prot) (w : World) : Keep B w w := ⟨rfl, rfl, rfl, Nat.le_refl _, fun _ _ => rfl⟩
theorem Keep.trans {B : Prot} {a b c : World} (h : Keep B a b) (k : Keep B b c) : Keep B a c :=
  ⟨k.os.trans h.os, k.tape.trans h.tape, k.output.trans h.output, Nat.le_trans h.size k.size, fun i hi => (k.block i hi).trans (h.block i hi)⟩
theorem Keep.drew {B : Prot} {a w : World} (h : Keep B a w) : Keep B a w.drew := ⟨h.os, h.tape, h.output, h.size, h.block⟩
theorem Keep.alloc {B : Prot} {a w : World} (h : Keep B a w) (hB : B.free w.heap.size) (o : Obj) : Keep B a (w.alloc o) :=
  h.trans ⟨rfl, rfl, rfl, by simp, fun k hk => by
    have hne : k ≠ w.heap.size := fun e => hB (e ▸ hk)
    show (w.heap.push o)[k]? = _
    rw [Array.getElem?_push, if_neg hne]⟩
theorem keep_setRow {B : Prot} {g : Nat} {w0 w : World} (hb : Keep B w0 w) (hBg : B.free g) (cs : Array Value) : Keep B w0 (w.setRow g cs) :=
  hb.trans ⟨rfl, rfl, rfl, by simp [World.setRow], fun k hk => setRow_other w g k cs (fun e => hBg (e ▸ hk))⟩
theorem Keep.below {n : Nat} {w w' : World} (h : Keep (.to n) w w') : Below n w w' := ⟨h.os, h.tape, h.output, h.size, fun k hk => h.block k hk⟩
theorem Keep.of_below {B : Prot} {n : Nat} {w w' : World} (h : Below n w w') (hB : ∀ k, B.p k → k < n) : Keep B w w' := ⟨h.os, h.tape, h.output, h.size, fun k hk => h.block k (hB k hk)⟩
inductive AObj where
  | cells (cs : List Value) (g : Nat) (wr : Bool)
  | map (es : List MapEntry) (clock : Nat) (wr : Bool)
  | iter (m : Option Nat) (since : Nat) (seen : List Nat) (stepped : Nat)
  | loop (st : LoopState) (pend : Option Code) (t : T Value) (n : Nat) (params : List Tmp) (assign body : Code) (dfr : Nat)
  | marks
  | gone
structure Mem where
  h : T AObj
  gs : T (Nat × Nat)
  nx : Nat
/-- The block of a group that was made last; the first one that may be read. -/
def Mem.cur (m : Mem) (g : Nat) : Nat := match m.gs.get g with | some p => p.1 | none => g
def Mem.ok (m : Mem) (g : Nat) : Nat := match m.gs.get g with | some p => p.2 | none => g
def AObj.grp : AObj → Option Nat
  | .cells _ g _ => some g
  | _ => none

def ORel (G : Ctx) (B : Prot) (m : Mem) (k b d : Nat) (w : World) : AObj → Prop
  | .cells cs g wr => ∃ c t fz, w.heap[b]? = some (.cells c t fz) ∧ c.size = G.sz b ∧ (wr = true → B.free b ∧ fz = (0, 0)) ∧
      (m.ok g ≤ k → d + cs.length ≤ c.size ∧ ∀ (i : Nat) (v : Value), cs[i]? = some v → v.oneCell' = true ∧ ∃ v', c[d + i]? = some v' ∧ VRel G v v')
  | .map es clock wr => d = 0 ∧ (wr = true → B.free b) ∧ ∃ es' : Array MapEntry, w.heap[b]? = some (.map es' clock) ∧ es'.size = es.length ∧
      ∀ (i : Nat) (e : MapEntry), es[i]? = some e → ∃ e', es'[i]? = some e' ∧ VRel G e.key e'.key ∧ VRel G e.val e'.val ∧ e'.born = e.born
  | .iter mp since seen stepped => d = 0 ∧ B.free b ∧ ∃ mp', w.heap[b]? = some (.mapIter mp' since seen.toArray stepped) ∧ VRel G (.map mp) (.map mp')
  | .loop st pend t n params assign body dfr => d = 0 ∧ B.free b ∧ ∃ l', w.heap[b]? = some (.loop l') ∧ l'.state = st ∧ l'.pending = pend ∧ l'.params = params.toArray ∧ l'.assign = assign ∧ l'.body = body ∧
      l'.tmps.size = n ∧ (∀ i, VRel G ((t.get i).getD undef) (l'.tmps.getD i undef)) ∧ G.f dfr = some (l'.defers, 0)
  | .marks => d = 0 ∧ B.free b ∧ w.heap[b]? = some (.deferred (some []))
  | .gone => d = 0 ∧ B.free b

structure R (G : Ctx) (B : Prot) (m : Mem) (w : World) : Prop where
  dom : ∀ k b d, G.f k = some (b, d) → b < w.heap.size
  obj : ∀ k b d, G.f k = some (b, d) → ∃ o, m.h.get k = some o ∧ ORel G B m k b d w o
  alias : ∀ k j b d d', G.f k = some (b, d) → G.f j = some (b, d') → k ≠ j → ∃ ck wk cj wj g, m.h.get k = some (.cells ck g wk) ∧ m.h.get j = some (.cells cj g wj)
  top : ∀ k cs g wr, m.h.get k = some (.cells cs g wr) → k ≤ m.cur g ∧ g ≤ k
  fresh : ∀ k, m.nx ≤ k → m.h.get k = none ∧ m.gs.get k = none
  low : ∀ k, B.p k → k < w.heap.size

theorem R.base {G : Ctx} {B : Prot} {m : Mem} {w : World} (h : R G B m w) : B.free w.heap.size := fun hk => Nat.lt_irrefl _ (h.low _ hk)
theorem R.lt {G : Ctx} {B : Prot} {m : Mem} {w : World} (h : R G B m w) {k : Nat} {p : Nat × Nat} (hk : G.f k = some p) : k < m.nx := by
  rcases Nat.lt_or_ge k m.nx with h' | h'
  · exact h'
  · obtain ⟨o, ho, _⟩ := h.obj k p.1 p.2 hk
    rw [(h.fresh k h').1] at ho; cases ho

/-- What ORel sees of the world: one block. -/
theorem ORel.world {G : Ctx} {B : Prot} {m : Mem} {k b d : Nat} {w w' : World} {o : AObj} (h : ORel G B m k b d w o) (hb : w'.heap[b]? = w.heap[b]?) : ORel G B m k b d w' o := by
  cases o <;> simp only [ORel] at h ⊢ <;> (try rw [hb]) <;> exact h
/-- .. of the groups: what may be read grows less. -/
theorem ORel.groups {G : Ctx} {B : Prot} {m m' : Mem} {k b d : Nat} {w : World} {o : AObj} (h : ORel G B m k b d w o) (hb : ∀ g, o.grp = some g → m'.ok g ≤ k → m.ok g ≤ k) : ORel G B m' k b d w o := by
  cases o <;> simp only [ORel] at h ⊢
  case cells cs g wr =>
    obtain ⟨c, t, fz, h1, h2, h3, h4⟩ := h
    exact ⟨c, t, fz, h1, h2, h3, fun hk => h4 (hb g rfl hk)⟩
  all_goals exact h
theorem ORel.mono {G G' : Ctx} {B : Prot} {m : Mem} {k b d : Nat} {w : World} {o : AObj} (e : Ext G G') (hk : G.f k = some (b, d)) (h : ORel G B m k b d w o) : ORel G' B m k b d w o := by
  cases o <;> simp only [ORel] at h ⊢
  case cells cs g wr =>
    obtain ⟨c, t, fz, h1, h2, h3, h4⟩ := h
    exact ⟨c, t, fz, h1, by rw [e.sz _ _ hk]; exact h2, h3, fun hg => ⟨(h4 hg).1, fun i v hi => let ⟨h5, v', h6, h7⟩ := (h4 hg).2 i v hi; ⟨h5, v', h6, h7.mono e⟩⟩⟩
  case map es clock wr =>
    obtain ⟨h0, h1, es', h2, h3, h4⟩ := h
    exact ⟨h0, h1, es', h2, h3, fun i x hi => let ⟨x', a, b, c, d⟩ := h4 i x hi; ⟨x', a, b.mono e, c.mono e, d⟩⟩
  case iter mp since seen stepped =>
    obtain ⟨h0, h1, mp', h2, h3⟩ := h
    exact ⟨h0, h1, mp', h2, h3.mono e⟩
  case loop st pend t n params assign body dfr =>
    obtain ⟨h0, h1, l', a1, a2, a3, a5, a6, a7, a8, a9, a10⟩ := h
    exact ⟨h0, h1, l', a1, a2, a3, a5, a6, a7, a8, fun i => (a9 i).mono e, e.f _ _ a10⟩
  case marks => exact h
  case gone => exact h

theorem R.drew {G : Ctx} {B : Prot} {m : Mem} {w : World} (h : R G B m w) : R G B m w.drew :=
  ⟨h.dom, fun k b d hk => let ⟨o, ho, r⟩ := h.obj k b d hk; ⟨o, ho, r.world rfl⟩, h.alias, h.top, h.fresh, h.low⟩

/-- A world whose old blocks are the same. -/
theorem R.same {G : Ctx} {B : Prot} {m : Mem} {w w' : World} (h : R G B m w) (hs : w.heap.size ≤ w'.heap.size) (hb : ∀ i, i < w.heap.size → w'.heap[i]? = w.heap[i]?) : R G B m w' :=
  ⟨fun k b d hk => Nat.lt_of_lt_of_le (h.dom k b d hk) hs, fun k b d hk => let ⟨o, ho, r⟩ := h.obj k b d hk; ⟨o, ho, r.world (hb b (h.dom k b d hk))⟩, h.alias, h.top, h.fresh, fun k hk => Nat.lt_of_lt_of_le (h.low k hk) hs⟩

/-- One more block. -/
def Ctx.put (G : Ctx) (k b d n : Nat) : Ctx := { f := fun j => if j = k then some (b, d) else G.f j, sz := fun c => if c = b then n else G.sz c, sym := G.sym }
def Mem.put (m : Mem) (o : AObj) : Mem := { m with h := m.h.set m.nx (some o), nx := m.nx + 1 }
theorem Ctx.ext_put {G : Ctx} {B : Prot} {m : Mem} {w : World} (h : R G B m w) (n : Nat) : Ext G (G.put m.nx w.heap.size 0 n) := by
  refine ⟨fun k p hk => ?_, fun k p hk => ?_, rfl⟩
  · have := h.lt hk
    simp only [Ctx.put]; rw [if_neg (by omega)]; exact hk
  · have := h.dom k p.1 p.2 hk
    simp only [Ctx.put]; rw [if_neg (by omega)]

/-- From a context on: what is new lies in new blocks, or where something lay. -/
structure Grow (G : Ctx) (w : World) (G' : Ctx) : Prop extends Ext G G' where
  rng : ∀ j p, G'.f j = some p → w.heap.size ≤ p.1 ∨ ∃ i q, G.f i = some q ∧ q.1 = p.1
theorem Grow.refl (G : Ctx) (w : World) : Grow G w G := ⟨Ext.refl G, fun j p h => .inr ⟨j, p, h, rfl⟩⟩
theorem Grow.trans {a b c : Ctx} {w w1 : World} (hs : w.heap.size ≤ w1.heap.size) (h : Grow a w b) (k : Grow b w1 c) : Grow a w c := ⟨h.toExt.trans k.toExt, fun j p hp => by
  rcases k.rng j p hp with h1 | ⟨i, q, h1, h2⟩
  · exact .inl (Nat.le_trans hs h1)
  · rcases h.rng i q h1 with h3 | ⟨i', q', h3, h4⟩
    · exact .inl (by rw [← h2]; exact h3)
    · exact .inr ⟨i', q', h3, h4.trans h2⟩⟩
theorem Ctx.grow_put {G : Ctx} {B : Prot} {m : Mem} {w : World} (h : R G B m w) (n : Nat) : Grow G w (G.put m.nx w.heap.size 0 n) := ⟨Ctx.ext_put h n, fun j p hp => by
  simp only [Ctx.put] at hp
  split at hp
  · cases hp; exact .inl (Nat.le_refl _)
  · exact .inr ⟨j, p, hp, rfl⟩⟩

theorem R.alloc {G : Ctx} {B : Prot} {m : Mem} {w : World} (h : R G B m w) (n : Nat) {o : AObj} {o' : Obj}
    (hg : ∀ g, o.grp = some g → g = m.nx)
    (ho : ORel (G.put m.nx w.heap.size 0 n) B (m.put o) m.nx w.heap.size 0 (w.alloc o') o) : R (G.put m.nx w.heap.size 0 n) B (m.put o) (w.alloc o') := by
  have e := Ctx.ext_put h n
  have hput : ∀ k, (m.put o).h.get k = if k = m.nx then some o else m.h.get k := fun k => T.get_set _ _ _ _
  have hf : ∀ k, (G.put m.nx w.heap.size 0 n).f k = if k = m.nx then some (w.heap.size, 0) else G.f k := fun k => rfl
  refine ⟨fun k b d hk => ?_, fun k b d hk => ?_, fun k j b d d' hk hj hne => ?_, fun k cs g wr hk => ?_, fun k hk => ?_, ?_⟩
  · rw [hf] at hk
    split at hk
    · cases hk; simp
    · have := h.dom k b d hk; simp; omega
  · rw [hf] at hk
    split at hk
    · rename_i hkn
      cases hk
      subst hkn
      exact ⟨o, by rw [hput]; simp, ho⟩
    · rename_i hkn
      obtain ⟨x, hx, hr⟩ := h.obj k b d hk
      exact ⟨x, by rw [hput, if_neg hkn]; exact hx, ((hr.mono e hk).world (Below.heap_alloc w o' b (h.dom k b d hk))).groups (fun g _ hle => hle)⟩
  · rw [hf] at hk hj
    split at hk
    · split at hj
      · omega
      · have := h.dom j b d' hj; cases hk; omega
    · split at hj
      · have := h.dom k b d hk; cases hj; omega
      · rename_i h1 h2
        obtain ⟨a1, a2, a3, a4, a5, a6, a7⟩ := h.alias k j b d d' hk hj hne
        exact ⟨a1, a2, a3, a4, a5, by rw [hput, if_neg h1]; exact a6, by rw [hput, if_neg h2]; exact a7⟩
  · rw [hput] at hk
    split at hk
    · rename_i hkn
      injection hk with hk
      have hgn := hg g (by rw [hk]; rfl)
      subst hgn; subst hkn
      simp only [Mem.cur, Mem.put]
      rw [(h.fresh m.nx (Nat.le_refl _)).2]
      simp
    · exact h.top k cs g wr hk
  · have hk' : m.nx + 1 ≤ k := hk
    refine ⟨by rw [hput, if_neg (by omega)]; exact (h.fresh k (by omega)).1, (h.fresh k (by omega)).2⟩
  · intro k hk; have := h.low k hk; simp; omega
end Go.Eng

/- Changes of the abstract memory that follow changes of the real one. -/
namespace Go.Eng
open Go.RowKit

def lset (cs : List Value) (off : Nat) (vs : List Value) : List Value := cs.take off ++ vs ++ cs.drop (off + vs.length)
theorem length_lset (cs : List Value) (off : Nat) (vs : List Value) (h : off + vs.length ≤ cs.length) : (lset cs off vs).length = cs.length := by
  simp [lset]; omega
theorem get_lset (cs : List Value) (off : Nat) (vs : List Value) (h : off + vs.length ≤ cs.length) (i : Nat) :
    (lset cs off vs)[i]? = if i < off then cs[i]? else if i < off + vs.length then vs[i - off]? else cs[i]? := by
  unfold lset
  by_cases h1 : i < off
  · rw [if_pos h1, List.append_assoc, List.getElem?_append_left (by simp; omega), List.getElem?_take_of_lt h1]
  · rw [if_neg h1]
    by_cases h2 : i < off + vs.length
    · rw [if_pos h2, List.getElem?_append_left (by simp; omega), List.getElem?_append_right (by simp; omega)]
      congr 1; simp; omega
    · rw [if_neg h2, List.getElem?_append_right (by simp; omega), List.getElem?_drop]
      congr 1; simp; omega

/-- Only block k of its group may be read and written from here on. -/
def Mem.shutg (m : Mem) (g k : Nat) : T (Nat × Nat) := if m.ok g = k ∧ m.cur g = k then m.gs else m.gs.set g (some (k, k))
theorem shutg_ok (m : Mem) (h : T AObj) (nx g k j : Nat) : (Mem.mk h (m.shutg g k) nx).ok j = if j = g then k else m.ok j := by
  unfold Mem.shutg
  split
  · rename_i hc
    by_cases hj : j = g
    · subst hj; rw [if_pos rfl]; exact hc.1
    · rw [if_neg hj]; rfl
  · simp only [Mem.ok, T.get_set]
    by_cases hj : j = g
    · subst hj; simp
    · simp [hj]
theorem shutg_cur (m : Mem) (h : T AObj) (nx g k j : Nat) : (Mem.mk h (m.shutg g k) nx).cur j = if j = g then k else m.cur j := by
  unfold Mem.shutg
  split
  · rename_i hc
    by_cases hj : j = g
    · subst hj; rw [if_pos rfl]; exact hc.2
    · rw [if_neg hj]; rfl
  · simp only [Mem.cur, T.get_set]
    by_cases hj : j = g
    · subst hj; simp
    · simp [hj]
theorem shutg_fresh (m : Mem) (g k j : Nat) (hj : m.gs.get j = none) (hne : j ≠ g) : (m.shutg g k).get j = none := by
  unfold Mem.shutg
  split
  · exact hj
  · rw [T.get_set, if_neg hne]; exact hj

def Mem.write (m : Mem) (k g : Nat) (cs : List Value) : Mem := { h := m.h.set k (some (.cells cs g true)), gs := m.shutg g k, nx := m.nx }

theorem R.write {G : Ctx} {B : Prot} {m : Mem} {w : World} (h : R G B m w) {k b d g off : Nat} {cs vs vs' : List Value} {c : Array Value} {t : TypeId} {fz : Nat × Nat}
    (hk : G.f k = some (b, d)) (ho : m.h.get k = some (.cells cs g true)) (hok : m.ok g ≤ k) (hcur : m.cur g = k) (hoff : off + vs.length ≤ cs.length)
    (hl : vs'.length = vs.length) (hv : ∀ (i : Nat) (x y : Value), vs[i]? = some x → vs'[i]? = some y → x.oneCell' = true ∧ VRel G x y)
    (hc : w.heap[b]? = some (.cells c t fz)) :
    R G B (m.write k g (lset cs off vs)) (w.setRow b (lset c.toList (d + off) vs').toArray) := by
  obtain ⟨o, ho', r⟩ := h.obj k b d hk
  rw [ho] at ho'; cases ho'
  obtain ⟨c', t', fz', h1, h2, h3, h4⟩ := r
  rw [hc] at h1; cases h1
  obtain ⟨h5, h6⟩ := h4 hok
  have hget : ∀ j, (m.write k g (lset cs off vs)).h.get j = if j = k then some (.cells (lset cs off vs) g true) else m.h.get j := fun j => T.get_set _ _ _ _
  have hokj : ∀ j, (m.write k g (lset cs off vs)).ok j = if j = g then k else m.ok j := fun j => shutg_ok m _ _ g k j
  have hcurj : ∀ j, (m.write k g (lset cs off vs)).cur j = if j = g then k else m.cur j := fun j => shutg_cur m _ _ g k j
  have hgk := h.top k cs g true ho
  have hklt := h.lt hk
  have hfit : d + off + vs'.length ≤ c.toList.length := by simp; omega
  refine ⟨fun j b' d' hj => ?_, fun j b' d' hj => ?_, fun i j b' d1 d2 hi hj hne => ?_, fun j cj gj wj hj => ?_, fun j hj => ?_, ?_⟩
  · simp; exact h.dom j b' d' hj
  · by_cases hjk : j = k
    · subst hjk
      rw [hk] at hj; cases hj
      refine ⟨.cells (lset cs off vs) g true, by rw [hget, if_pos rfl], (lset c.toList (d + off) vs').toArray, t, fz, setRow_heap w b c _ t fz hc, ?_, h3, fun _ => ⟨?_, fun i v hi => ?_⟩⟩
      · rw [List.size_toArray, length_lset _ _ _ hfit]; simpa using h2
      · rw [List.size_toArray, length_lset _ _ _ hfit, length_lset _ _ _ hoff]; simpa using h5
      · rw [get_lset _ _ _ hoff] at hi
        rw [List.getElem?_toArray, get_lset _ _ _ hfit]
        split at hi
        · rw [if_pos (by omega)]
          have := h6 i v hi
          simpa using this
        · rw [if_neg (by omega)]
          split at hi
          · rename_i h7
            rw [if_pos (by omega)]
            have e : d + i - (d + off) = i - off := by omega
            rw [e]
            have hlt : i - off < vs'.length := by omega
            have := hv (i - off) v _ hi (List.getElem?_eq_getElem hlt)
            exact ⟨this.1, _, List.getElem?_eq_getElem hlt, this.2⟩
          · rw [if_neg (by omega)]
            have := h6 i v hi
            simpa using this
    · obtain ⟨o, hoj, rj⟩ := h.obj j b' d' hj
      refine ⟨o, by rw [hget, if_neg hjk]; exact hoj, ?_⟩
      by_cases hbb : b' = b
      · subst hbb
        obtain ⟨ci, wi, cj, wj, gg, a1, a2⟩ := h.alias k j b' d d' hk hj (Ne.symm hjk)
        rw [ho] at a1; cases a1
        rw [hoj] at a2; cases a2
        obtain ⟨c2, t2, fz2, b1, b2, b3, b4⟩ := rj
        rw [hc] at b1; cases b1
        refine ⟨_, t, fz, setRow_heap w b' c _ t fz hc, ?_, b3, fun hle => ?_⟩
        · rw [List.size_toArray, length_lset _ _ _ hfit]; simpa using b2
        · rw [hokj, if_pos rfl] at hle
          have := h.top j cj g wj hoj
          rw [hcur] at this
          omega
      · refine (rj.world (setRow_other w b b' _ hbb)).groups fun gg hgg hle => ?_
        rw [hokj] at hle
        split at hle
        · subst_vars; omega
        · exact hle
  · obtain ⟨ci, wi, cj, wj, gg, a1, a2⟩ := h.alias i j b' d1 d2 hi hj hne
    refine if hik : i = k then ?_ else if hjk : j = k then ?_ else ⟨ci, wi, cj, wj, gg, by rw [hget, if_neg hik]; exact a1, by rw [hget, if_neg hjk]; exact a2⟩
    · subst hik
      rw [ho] at a1; cases a1
      exact ⟨lset cs off vs, true, cj, wj, g, by rw [hget, if_pos rfl], by rw [hget, if_neg (Ne.symm hne)]; exact a2⟩
    · subst hjk
      rw [ho] at a2; cases a2
      exact ⟨ci, wi, lset cs off vs, true, g, by rw [hget, if_neg hik]; exact a1, by rw [hget, if_pos rfl]⟩
  · rw [hget] at hj
    rw [hcurj]
    split at hj
    · rename_i hjk
      cases hj; subst hjk
      simp [hgk.2]
    · have := h.top j cj gj wj hj
      split
      · subst_vars; omega
      · exact this
  · have hj' : m.nx ≤ j := hj
    refine ⟨by rw [hget, if_neg (by omega)]; exact (h.fresh j hj').1, shutg_fresh m g k j (h.fresh j hj').2 (by omega)⟩
  · intro k hk; simp; exact h.low k hk

/-- Another object than cells takes another form. -/
def Mem.setObj (m : Mem) (k : Nat) (o : AObj) : Mem := { m with h := m.h.set k (some o) }
theorem R.setObj {G : Ctx} {B : Prot} {m : Mem} {w : World} (h : R G B m w) {k b d : Nat} {o o1 : AObj} {x : Obj} (hk : G.f k = some (b, d)) (ho : m.h.get k = some o) (hg : o.grp = none) (hg1 : o1.grp = none)
    (hr : ORel G B (m.setObj k o1) k b d { w with heap := w.heap.setIfInBounds b x } o1) :
    R G B (m.setObj k o1) { w with heap := w.heap.setIfInBounds b x } := by
  have hget : ∀ j, (m.setObj k o1).h.get j = if j = k then some o1 else m.h.get j := fun j => T.get_set _ _ _ _
  have hklt := h.lt hk
  refine ⟨fun j b' d' hj => ?_, fun j b' d' hj => ?_, fun i j b' d1 d2 hi hj hne => ?_, fun j cj gj wj hj => ?_, fun j hj => ?_, ?_⟩
  · simp; exact h.dom j b' d' hj
  · by_cases hjk : j = k
    · subst hjk
      rw [hk] at hj; cases hj
      exact ⟨o1, by rw [hget, if_pos rfl], hr⟩
    · obtain ⟨oj, hoj, rj⟩ := h.obj j b' d' hj
      refine ⟨oj, by rw [hget, if_neg hjk]; exact hoj, ?_⟩
      have hbb : b' ≠ b := fun e => by
        subst e
        obtain ⟨ci, wi, cj, wj, gg, a1, a2⟩ := h.alias k j b' d d' hk hj (Ne.symm hjk)
        rw [ho] at a1; cases a1; cases hg
      exact (rj.world (by simp [Array.getElem?_setIfInBounds, Ne.symm hbb])).groups fun _ _ hle => hle
  · obtain ⟨ci, wi, cj, wj, gg, a1, a2⟩ := h.alias i j b' d1 d2 hi hj hne
    have hik : i ≠ k := fun e => by subst e; rw [ho] at a1; cases a1; cases hg
    have hjk : j ≠ k := fun e => by subst e; rw [ho] at a2; cases a2; cases hg
    exact ⟨ci, wi, cj, wj, gg, by rw [hget, if_neg hik]; exact a1, by rw [hget, if_neg hjk]; exact a2⟩
  · rw [hget] at hj
    split at hj
    · cases hj; cases hg1
    · exact h.top j cj gj wj hj
  · have hj' : m.nx ≤ j := hj
    exact ⟨by rw [hget, if_neg (by omega)]; exact (h.fresh j hj').1, (h.fresh j hj').2⟩
  · intro k hk; simp; exact h.low k hk

/-- What append makes: a block more in the group g of block k, of which 'k' itself may be read on where all of it was handed on. -/
def Mem.grow (m : Mem) (g lo : Nat) (cs : List Value) : Mem := { h := m.h.set m.nx (some (.cells cs g true)), gs := m.gs.set g (some (m.nx, lo)), nx := m.nx + 1 }
def Ctx.also (G : Ctx) (k b d : Nat) : Ctx := { f := fun j => if j = k then some (b, d) else G.f j, sz := G.sz, sym := G.sym }
theorem Ctx.ext_also {G : Ctx} {B : Prot} {m : Mem} {w : World} (h : R G B m w) (b d : Nat) : Ext G (G.also m.nx b d) := by
  refine ⟨fun k p hk => ?_, fun k p hk => rfl, rfl⟩
  have := h.lt hk
  simp only [Ctx.also]; rw [if_neg (by omega)]; exact hk

theorem Ctx.grow_also {G : Ctx} {B : Prot} {m : Mem} {w : World} (h : R G B m w) (b d : Nat) {k : Nat} {d' : Nat} (hk : G.f k = some (b, d')) : Grow G w (G.also m.nx b d) := ⟨Ctx.ext_also h b d, fun j p hp => by
  simp only [Ctx.also] at hp
  split at hp
  · cases hp; exact .inr ⟨k, _, hk, rfl⟩
  · exact .inr ⟨j, p, hp, rfl⟩⟩

/-- There was room: the new cells are written behind the old ones. -/
theorem R.growIn {G : Ctx} {B : Prot} {m : Mem} {w : World} (h : R G B m w) {k b d g off n lo : Nat} {cs news news' : List Value} {c : Array Value} {t : TypeId} {fz : Nat × Nat}
    (hk : G.f k = some (b, d)) (ho : m.h.get k = some (.cells cs g true)) (hok : m.ok g ≤ k) (hoff : off + n ≤ cs.length)
    (hl : news'.length = news.length) (hv : ∀ (i : Nat) (x y : Value), news[i]? = some x → news'[i]? = some y → x.oneCell' = true ∧ VRel G x y)
    (hc : w.heap[b]? = some (.cells c t fz)) (hroom : d + off + n + news.length ≤ c.size)
    (hlo : (lo = k ∧ off + n = cs.length ∧ m.cur g = k) ∨ lo = m.nx) :
    R (G.also m.nx b (d + off)) B (m.grow g lo ((cs.drop off).take n ++ news)) (w.setRow b (lset c.toList (d + off + n) news').toArray) := by
  obtain ⟨o, ho', r⟩ := h.obj k b d hk
  rw [ho] at ho'; cases ho'
  obtain ⟨c', t', fz', h1, h2, h3, h4⟩ := r
  rw [hc] at h1; cases h1
  obtain ⟨h5, h6⟩ := h4 hok
  have e := Ctx.ext_also h b (d + off)
  have hget : ∀ j, (m.grow g lo ((cs.drop off).take n ++ news)).h.get j = if j = m.nx then some (.cells ((cs.drop off).take n ++ news) g true) else m.h.get j := fun j => T.get_set _ _ _ _
  have hokj : ∀ j, (m.grow g lo ((cs.drop off).take n ++ news)).ok j = if j = g then lo else m.ok j := fun j => by
    simp only [Mem.ok, Mem.grow, T.get_set]
    by_cases hj : j = g
    · subst hj; simp
    · simp [hj]
  have hcurj : ∀ j, (m.grow g lo ((cs.drop off).take n ++ news)).cur j = if j = g then m.nx else m.cur j := fun j => by
    simp only [Mem.cur, Mem.grow, T.get_set]
    by_cases hj : j = g
    · subst hj; simp
    · simp [hj]
  have hgk := h.top k cs g true ho
  have hklt := h.lt hk
  have hfit : d + off + n + news'.length ≤ c.toList.length := by simp; omega
  have hf : ∀ j, (G.also m.nx b (d + off)).f j = if j = m.nx then some (b, d + off) else G.f j := fun j => rfl
  have hsize : (lset c.toList (d + off + n) news').toArray.size = c.size := by rw [List.size_toArray, length_lset _ _ _ hfit]; simp
  refine ⟨fun j b' d' hj => ?_, fun j b' d' hj => ?_, fun i j b' d1 d2 hi hj hne => ?_, fun j cj gj wj hj => ?_, fun j hj => ?_, ?_⟩
  · rw [hf] at hj
    split at hj
    · cases hj; simp; exact h.dom k b d hk
    · simp; exact h.dom j b' d' hj
  · rw [hf] at hj
    split at hj
    · rename_i hjn
      subst hjn
      cases hj
      refine ⟨.cells ((cs.drop off).take n ++ news) g true, by rw [hget, if_pos rfl], _, t, fz, setRow_heap w b c _ t fz hc, by rw [hsize]; exact h2, h3, fun _ => ⟨?_, fun i v hi => ?_⟩⟩
      · rw [hsize]; simp; omega
      · rw [List.getElem?_toArray, get_lset _ _ _ hfit]
        by_cases hin : i < n
        · rw [if_pos (by omega)]
          rw [List.getElem?_append_left (by simp; omega), List.getElem?_take_of_lt hin, List.getElem?_drop] at hi
          obtain ⟨q1, v', q2, q3⟩ := h6 (off + i) v hi
          refine ⟨q1, v', ?_, q3.mono e⟩
          rw [Array.getElem?_toList, ← q2]; congr 1; omega
        · rw [if_neg (by omega)]
          have hlen : ((cs.drop off).take n).length = n := by simp; omega
          rw [List.getElem?_append_right (by omega), hlen] at hi
          have hlt : i - n < news.length := by
            rcases Nat.lt_or_ge (i - n) news.length with h' | h'
            · exact h'
            · rw [List.getElem?_eq_none h'] at hi; cases hi
          rw [if_pos (by omega)]
          have e2 : d + off + i - (d + off + n) = i - n := by omega
          rw [e2]
          have := hv (i - n) v _ hi (List.getElem?_eq_getElem (by omega))
          exact ⟨this.1, _, List.getElem?_eq_getElem (by omega), this.2.mono e⟩
    · rename_i hjn
      obtain ⟨o, hoj, rj⟩ := h.obj j b' d' hj
      refine ⟨o, by rw [hget, if_neg hjn]; exact hoj, ?_⟩
      have rj' := rj.mono e hj
      have hjlt := h.lt hj
      by_cases hbb : b' = b
      · subst hbb
        by_cases hjk : j = k
        · subst hjk
          rw [ho] at hoj; cases hoj
          rw [hk] at hj; cases hj
          obtain ⟨c2, t2, fz2, b1, b2, b3, b4⟩ := rj'
          rw [hc] at b1; cases b1
          refine ⟨_, t, fz, setRow_heap w b' c _ t fz hc, by rw [hsize]; exact b2, b3, fun hle => ?_⟩
          rw [hokj, if_pos rfl] at hle
          have hfull : off + n = cs.length := by
            rcases hlo with ⟨_, q, _⟩ | q
            · exact q
            · omega
          refine ⟨by rw [hsize]; exact h5, fun i v hi => ?_⟩
          have hlt : i < cs.length := by
            rcases Nat.lt_or_ge i cs.length with h' | h'
            · exact h'
            · rw [List.getElem?_eq_none h'] at hi; cases hi
          obtain ⟨q1, v', q2, q3⟩ := h6 i v hi
          exact ⟨q1, v', by rw [List.getElem?_toArray, get_lset _ _ _ hfit, if_pos (by omega), Array.getElem?_toList]; exact q2, q3.mono e⟩
        · obtain ⟨ci, wi, cj, wj, gg, a1, a2⟩ := h.alias k j b' d d' hk hj (Ne.symm hjk)
          rw [ho] at a1; cases a1
          rw [hoj] at a2; cases a2
          obtain ⟨c2, t2, fz2, b1, b2, b3, b4⟩ := rj'
          rw [hc] at b1; cases b1
          refine ⟨_, t, fz, setRow_heap w b' c _ t fz hc, by rw [hsize]; exact b2, b3, fun hle => ?_⟩
          rw [hokj, if_pos rfl] at hle
          have := h.top j cj g wj hoj
          rcases hlo with ⟨q1, _, q3⟩ | q <;> omega
      · refine (rj'.world (setRow_other w b b' _ hbb)).groups fun gg hgg hle => ?_
        rw [hokj] at hle
        split at hle
        · subst_vars
          rcases hlo with ⟨q1, _, q3⟩ | q <;> omega
        · exact hle
  · rw [hf] at hi hj
    have key : ∀ j d2, j ≠ m.nx → G.f j = some (b, d2) → ∃ cj wj, m.h.get j = some (.cells cj g wj) := fun j d2 hjn hj => by
      by_cases hjk : j = k
      · subst hjk; exact ⟨cs, true, ho⟩
      · obtain ⟨ci, wi, cj, wj, gg, a1, a2⟩ := h.alias k j b d d2 hk hj (Ne.symm hjk)
        rw [ho] at a1; cases a1
        exact ⟨cj, wj, a2⟩
    split at hi
    · split at hj
      · omega
      · rename_i hin hjn
        cases hi
        obtain ⟨cj, wj, hj2⟩ := key j d2 hjn hj
        exact ⟨(cs.drop off).take n ++ news, true, cj, wj, g, by rw [hget, if_pos hin], by rw [hget, if_neg hjn]; exact hj2⟩
    · split at hj
      · rename_i hin hjn
        cases hj
        obtain ⟨ci, wi, hi2⟩ := key i d1 hin hi
        exact ⟨ci, wi, (cs.drop off).take n ++ news, true, g, by rw [hget, if_neg hin]; exact hi2, by rw [hget, if_pos hjn]⟩
      · rename_i hin hjn
        obtain ⟨ci, wi, cj, wj, gg, a1, a2⟩ := h.alias i j b' d1 d2 hi hj hne
        exact ⟨ci, wi, cj, wj, gg, by rw [hget, if_neg hin]; exact a1, by rw [hget, if_neg hjn]; exact a2⟩
  · rw [hget] at hj
    rw [hcurj]
    split at hj
    · cases hj; rw [if_pos rfl]; omega
    · have h1 := h.top j cj gj wj hj
      have h2 : j < m.nx := by
        rcases Nat.lt_or_ge j m.nx with h' | h'
        · exact h'
        · rw [(h.fresh j h').1] at hj; cases hj
      split
      · omega
      · exact h1
  · have hj' : m.nx + 1 ≤ j := hj
    refine ⟨by rw [hget, if_neg (by omega)]; exact (h.fresh j (by omega)).1, ?_⟩
    show (m.gs.set g (some (m.nx, lo))).get j = none
    rw [T.get_set, if_neg (by omega)]; exact (h.fresh j (by omega)).2
  · intro k hk; simp; exact h.low k hk

/-- There was no room: a new block, in the same group. -/
theorem R.growNew {G : Ctx} {B : Prot} {m : Mem} {w : World} (h : R G B m w) {g lo : Nat} {cs : List Value} {c : Array Value} {t : TypeId}
    (hg : g < m.nx) (hlo : m.ok g ≤ lo) (hcs : cs.length ≤ c.size)
    (hv : ∀ (i : Nat) (x : Value), cs[i]? = some x → x.oneCell' = true ∧ ∃ y, c[i]? = some y ∧ VRel G x y) :
    R (G.put m.nx w.heap.size 0 c.size) B (m.grow g lo cs) (w.alloc (.cells c t)) := by
  have e := Ctx.ext_put h c.size
  have hget : ∀ j, (m.grow g lo cs).h.get j = if j = m.nx then some (.cells cs g true) else m.h.get j := fun j => T.get_set _ _ _ _
  have hokj : ∀ j, (m.grow g lo cs).ok j = if j = g then lo else m.ok j := fun j => by
    simp only [Mem.ok, Mem.grow, T.get_set]
    by_cases hj : j = g
    · subst hj; simp
    · simp [hj]
  have hcurj : ∀ j, (m.grow g lo cs).cur j = if j = g then m.nx else m.cur j := fun j => by
    simp only [Mem.cur, Mem.grow, T.get_set]
    by_cases hj : j = g
    · subst hj; simp
    · simp [hj]
  have hf : ∀ k, (G.put m.nx w.heap.size 0 c.size).f k = if k = m.nx then some (w.heap.size, 0) else G.f k := fun k => rfl
  refine ⟨fun j b' d' hj => ?_, fun j b' d' hj => ?_, fun i j b' d1 d2 hi hj hne => ?_, fun j cj gj wj hj => ?_, fun j hj => ?_, ?_⟩
  · rw [hf] at hj
    split at hj
    · cases hj; simp
    · have := h.dom j b' d' hj; simp; omega
  · rw [hf] at hj
    split at hj
    · rename_i hjn
      subst hjn; cases hj
      refine ⟨.cells cs g true, by rw [hget, if_pos rfl], c, t, (0, 0), (show (w.heap.push (Obj.cells c t))[w.heap.size]? = _ from Array.getElem?_push_size), (show c.size = if w.heap.size = w.heap.size then c.size else _ from (if_pos rfl).symm), fun _ => ⟨h.base, rfl⟩, fun _ => ⟨by omega, fun i v hi => ?_⟩⟩
      obtain ⟨q1, y, q2, q3⟩ := hv i v hi
      exact ⟨q1, y, by rw [Nat.zero_add]; exact q2, q3.mono e⟩
    · rename_i hjn
      obtain ⟨x, hx, hr⟩ := h.obj j b' d' hj
      refine ⟨x, by rw [hget, if_neg hjn]; exact hx, ((hr.mono e hj).world (Below.heap_alloc w _ b' (h.dom j b' d' hj))).groups fun gg hgg hle => ?_⟩
      rw [hokj] at hle
      split at hle
      · subst_vars; omega
      · exact hle
  · rw [hf] at hi hj
    split at hi
    · split at hj
      · omega
      · have := h.dom j b' d2 hj; cases hi; omega
    · split at hj
      · have := h.dom i b' d1 hi; cases hj; omega
      · rename_i hin hjn
        obtain ⟨ci, wi, cj, wj, gg, a1, a2⟩ := h.alias i j b' d1 d2 hi hj hne
        exact ⟨ci, wi, cj, wj, gg, by rw [hget, if_neg hin]; exact a1, by rw [hget, if_neg hjn]; exact a2⟩
  · rw [hget] at hj
    rw [hcurj]
    split at hj
    · cases hj; rw [if_pos rfl]; omega
    · have h1 := h.top j cj gj wj hj
      have h2 : j < m.nx := by
        rcases Nat.lt_or_ge j m.nx with h' | h'
        · exact h'
        · rw [(h.fresh j h').1] at hj; cases hj
      split
      · omega
      · exact h1
  · have hj' : m.nx + 1 ≤ j := hj
    refine ⟨by rw [hget, if_neg (by omega)]; exact (h.fresh j (by omega)).1, ?_⟩
    show (m.gs.set g (some (m.nx, lo))).get j = none
    rw [T.get_set, if_neg (by omega)]; exact (h.fresh j (by omega)).2
  · intro k hk; have := h.low k hk; simp; omega
end Go.Eng

/- Operations that leave memory alone: what they answer, abstractly; that the machine answers likewise. -/
namespace Go.Eng
open Go.RowKit

/-! ### 1. A frame -/
structure AAct where
  t : T Value
  n : Nat
  d : List Nat := []
def plainV : Value → Bool
  | .bool _ | .int _ _ | .string _ | .pointer none | .slice none 0 0 | .map none | .nilFunc | .nilIface => true
  | .tuple cs => cs.size == 0
  | _ => false
theorem plainV_rel {v : Value} (G : Ctx) (h : plainV v = true) : VRel G v v := by
  unfold plainV at h
  split at h
  · exact .bool _
  · exact .int _ _
  · exact .string _
  · exact .nilPtr
  · exact .nilSlice
  · exact .nilMap
  · exact .nilFunc
  · exact .nilIface
  · rename_i cs
    refine .tuple _ _ rfl fun i x y hx hy => ?_
    have h0 : cs.size = 0 := by simpa using h
    rw [Array.getElem?_eq_none (by omega)] at hx; cases hx
  · cases h
def AAct.look (a : AAct) (t : Tmp) : Value := (a.t.get t).getD undef
def AAct.ev (a : AAct) : Operand → Option Value
  | .tmp t => some (a.look t)
  | .const v => if plainV v then some v else none
  | .func f => some (.func (.func f) #[] #[])
  | .global _ => none
def AAct.put (a : AAct) (d : Option Tmp) (v : Value) : AAct := match d with | some d => { a with t := a.t.set d (some v) } | none => a
structure ARel (G : Ctx) (a : AAct) (t' : Array Value) : Prop where
  size : t'.size = a.n
  rel : ∀ i, VRel G (a.look i) (t'.getD i undef)
theorem ARel.mono {G G' : Ctx} (e : Ext G G') {a : AAct} {t' : Array Value} (h : ARel G a t') : ARel G' a t' := ⟨h.size, fun i => (h.rel i).mono e⟩
theorem ARel.ev {G : Ctx} {a : AAct} {a' : Act} (h : ARel G a a'.tmps) {x : Operand} {v : Value} (hv : a.ev x = some v) : VRel G v (a'.eval x) := by
  cases x with
  | tmp t => simp only [AAct.ev, Option.some.injEq] at hv; subst hv; exact h.rel t
  | const c =>
    simp only [AAct.ev] at hv
    split at hv
    · rename_i hp; cases hv; exact plainV_rel G hp
    · cases hv
  | func f => simp only [AAct.ev, Option.some.injEq] at hv; subst hv; exact .func f #[] #[] rfl (fun i x y hx => by simp at hx)
  | global g => cases hv
theorem AAct.look_put (a : AAct) (d : Nat) (v : Value) (i : Nat) : (a.put (some d) v).look i = if i = d then v else a.look i := by
  simp only [AAct.put, AAct.look, T.get_set]
  by_cases h : i = d
  · subst h; simp
  · simp [h]
theorem ARel.put {G : Ctx} {a : AAct} {a' : Act} (h : ARel G a a'.tmps) {v v' : Value} (hv : VRel G v v') (d : Option Tmp) (hd : ∀ t, d = some t → t < a.n) : ARel G (a.put d v) (a'.put d v').tmps := by
  cases d with
  | none => exact h
  | some d =>
    have hlt := hd d rfl
    refine ⟨by simp [Act.put, h.size, AAct.put], fun i => ?_⟩
    rw [AAct.look_put]
    by_cases hi : i = d
    · subst hi
      rw [if_pos rfl]
      have : i < a'.tmps.size := by rw [h.size]; exact hlt
      simpa [Act.put, Array.getD_eq_getD_getElem?, this] using hv
    · rw [if_neg hi]
      have := h.rel i
      simpa [Act.put, Array.getD_eq_getD_getElem?, Array.getElem?_setIfInBounds_ne (Ne.symm hi)] using this

/-! ### 2. Numbers, strings -/
theorem aintV_run {op : BinOp} {k : IntKind} {x y : Int} {v : Value} (h : aintV op k x y = some v) (hs : op ≠ .shl) (hr : op ≠ .shr) (P : Program) (t : TypeId) (w : World) :
    (binOp op t (.int k x) (.int k y)).run P w = .ok v w := by
  cases op <;> simp only [aintV] at h <;> (try contradiction) <;>
    first
      | (cases h; simp [binOp, Op.intArith, Op.intBits, Op.intCmp]; done)
      | (split at h <;> cases h; simp_all [binOp, Op.intDiv])
theorem astrV_run {op : BinOp} {x y : ByteArray} {v : Value} (h : astrV op x y = some v) (P : Program) (t : TypeId) (w : World) :
    (binOp op t (.string x) (.string y)).run P w = .ok v w := by
  cases op <;> simp only [astrV] at h <;> (try contradiction) <;>
    first
      | (cases h; simp [binOp, Op.stringOp]; done)
      | (split at h <;> cases h; rename_i hn; simp only [binOp, Op.stringOp]; rw [if_neg hn]; rfl)
theorem ashV_run {op : BinOp} {k k' : IntKind} {x y : Int} {v : Value} (h : ashV op k x y = some v) (P : Program) (t : TypeId) (w : World) :
    (binOp op t (.int k x) (.int k' y)).run P w = .ok v w := by
  unfold ashV at h
  split at h
  · cases h
  · rename_i hn
    cases op <;> simp only at h <;> (try contradiction) <;> (cases h; simp [binOp, Op.shift, hn])

/-! ### 3. Equality of structs -/
def apart (P : Program) (t : TypeId) (cs : Array Value) (off : Nat) : Option Value :=
  match P.underlying t with
  | some (.struct _) | some (.array _ _) => (P.info? t).map fun i => .agg (cs.extract off (off + i.size))
  | some _ => cs[off]?
  | none => none
theorem apart_run {P : Program} {G : Ctx} {t : TypeId} {cs cs' : Array Value} {off : Nat} {v : Value} (h : apart P t cs off = some v)
    (hs : cs.size = cs'.size) (hv : ∀ (i : Nat) (x y : Value), cs[i]? = some x → cs'[i]? = some y → VRel G x y) (w : World) :
    ∃ v', (part t cs' off).run P w = .ok v' w ∧ VRel G v v' := by
  unfold apart at h
  have agg : ∀ i : TypeInfo, VRel G (.agg (cs.extract off (off + i.size))) (.agg (cs'.extract off (off + i.size))) := fun i => by
    refine .agg _ _ (by simp [hs]) fun j x y hx hy => ?_
    simp only [Array.getElem?_extract] at hx hy
    rw [hs] at hx
    split at hx
    · rename_i hlt
      rw [if_pos hlt] at hy
      exact hv _ _ _ hx hy
    · cases hx
  split at h
  · rename_i fs hu
    obtain ⟨i, hi, rfl⟩ := Option.map_eq_some_iff.1 h
    exact ⟨_, by simp [part, isAgg, run_underlying hu, sizeOf, typeInfo, hi], agg i⟩
  · rename_i n e hu
    obtain ⟨i, hi, rfl⟩ := Option.map_eq_some_iff.1 h
    exact ⟨_, by simp [part, isAgg, run_underlying hu, sizeOf, typeInfo, hi], agg i⟩
  · rename_i d h1 h2 hu
    have hlt : off < cs.size := by
      rcases Nat.lt_or_ge off cs.size with h' | h'
      · exact h'
      · rw [Array.getElem?_eq_none h'] at h; cases h
    refine ⟨cs'[off]'(by omega), ?_, hv off v _ h (Array.getElem?_eq_getElem (by omega))⟩
    have hna : (isAgg t).run P w = .ok false w := by
      simp only [isAgg, Sem.run_bind, run_underlying hu, Result.andThen_ok]
      cases d <;> first | rfl | exact (h1 _ rfl).elim | exact (h2 _ _ rfl).elim
    simp [part, hna, Array.getElem?_eq_getElem (show off < cs'.size by omega)]
  · cases h

def aeqFields (P : Program) (eq : TypeId → Value → Value → Option Bool) (xs ys : Array Value) : List Field → Option Bool
  | [] => some true
  | f :: fs =>
    if f.name ≠ "_" then
      match apart P f.type xs f.offset, apart P f.type ys f.offset with
      | some a, some b =>
        match eq f.type a b with
        | some true => aeqFields P eq xs ys fs
        | some false => some false
        | none => none
      | _, _ => none
    else aeqFields P eq xs ys fs
def aeq (P : Program) : Nat → TypeId → Value → Value → Option Bool
  | 0, _, _, _ => none
  | d + 1, t, x, y =>
    match P.underlying t, x, y with
    | some .bool, .bool a, .bool b => some (a == b)
    | some (.int _), .int k a, .int k' b => if k = k' then some (a == b) else none
    | some .string, .string a, .string b => some (a == b)
    | some (.struct fs), .agg xs, .agg ys => if P.stoodInHeld t then none else aeqFields P (aeq P d) xs ys fs.toList
    | _, _, _ => none

theorem aeqFields_run {P : Program} {G : Ctx} {eq : TypeId → Value → Value → Option Bool} {d : Nat} {w : World}
    (heq : ∀ t x y b x' y', eq t x y = some b → VRel G x x' → VRel G y y' → (Op.equalIn d t x' y').run P w = .ok b w)
    {xs ys xs' ys' : Array Value} (hx : VRel G (.agg xs) (.agg xs')) (hy : VRel G (.agg ys) (.agg ys')) :
    ∀ (fs : List Field) (b : Bool), aeqFields P eq xs ys fs = some b → (Op.eqFields d xs' ys' fs).run P w = .ok b w := by
  intro fs
  induction fs with
  | nil => intro b h; simp only [aeqFields, Option.some.injEq] at h; subst h; simp [Op.eqFields]
  | cons f fs ih =>
    intro b h
    simp only [aeqFields] at h
    simp only [Op.eqFields]
    split at h
    · rename_i hn
      rw [if_pos hn]
      split at h
      · rename_i a b' ha hb
        cases hx with
        | agg _ _ hsx hvx =>
          cases hy with
          | agg _ _ hsy hvy =>
            obtain ⟨a', ra, va⟩ := apart_run ha hsx hvx w
            obtain ⟨b2, rb, vb⟩ := apart_run hb hsy hvy w
            simp only [Sem.run_bind, ra, rb, Result.andThen_ok]
            split at h
            · rename_i he
              rw [heq _ _ _ _ _ _ he va vb]
              simpa using ih b h
            · rename_i he
              rw [heq _ _ _ _ _ _ he va vb]
              cases h; simp
            · cases h
      · cases h
    · rename_i hn
      rw [if_neg hn]
      exact ih b h

theorem aeq_run {P : Program} {G : Ctx} {w : World} : ∀ (d : Nat) (t : TypeId) (x y : Value) (b : Bool) (x' y' : Value), aeq P d t x y = some b → VRel G x x' → VRel G y y' →
    ∀ D, d ≤ D → (Op.equalIn D t x' y').run P w = .ok b w := by
  intro d
  induction d with
  | zero => intro t x y b x' y' h; simp [aeq] at h
  | succ d ih =>
    intro t x y b x' y' h hx hy D hD
    obtain ⟨D, rfl⟩ : ∃ E, D = E + 1 := ⟨D - 1, by omega⟩
    simp only [aeq] at h
    split at h
    · rename_i hu; cases hx; cases hy; cases h; exact run_equalIn_bool' w D t _ _ hu
    · rename_i k0 k1 a k2 b1 hu
      cases hx; cases hy
      split at h
      · rename_i hk; subst hk; cases h; exact run_equalIn_int w D t _ _ _ _ hu
      · cases h
    · rename_i hu; cases hx; cases hy; cases h; rw [run_equalIn_string w D t _ _ hu, beq_toListBytes]
    · rename_i fs xs ys hu
      split at h
      · cases h
      · rename_i hst
        have hf : P.fieldsOf t = fs := by simp [Program.fieldsOf, hu]
        cases hx with
        | agg _ xs' h1 h2 =>
          cases hy with
          | agg _ ys' h3 h4 =>
            rw [run_equalIn_struct w D t xs' ys' (by rw [hf]; exact hu) (by simpa using hst), hf]
            exact aeqFields_run (fun t x y b x' y' he hx hy => ih t x y b x' y' he hx hy D (by omega)) (.agg _ _ h1 h2) (.agg _ _ h3 h4) _ _ h
    · cases h

def abin (P : Program) (op : BinOp) (t : TypeId) (x y : Value) : Option Value :=
  match x, y with
  | .int k a, .int k' b =>
    match op with
    | .shl | .shr => ashV op k a b
    | _ => if k = k' then aintV op k a b else none
  | .string a, .string b => astrV op a b
  | .bool a, .bool b => if P.underlying t matches some .bool then (match op with | .eql => some (.bool (a == b)) | .neq => some (.bool (!(a == b))) | _ => none) else none
  | .agg xs, .agg ys =>
    if P.eqGuardType P.depth t then none else
    match op with
    | .eql => (aeq P 20 t (.agg xs) (.agg ys)).map .bool
    | .neq => (aeq P 20 t (.agg xs) (.agg ys)).map fun b => .bool (!b)
    | _ => none
  | .pointer a, .pointer none => match P.underlying t, op with
    | some (.pointer _), .eql => some (.bool a.isNone)
    | some (.pointer _), .neq => some (.bool (!a.isNone))
    | _, _ => none
  | .map a, .map none => match P.underlying t, op with
    | some (.map _ _), .eql => some (.bool a.isNone)
    | some (.map _ _), .neq => some (.bool (!a.isNone))
    | _, _ => none
  | .slice a _ _, .slice none 0 0 => match P.underlying t, op with
    | some (.slice _), .eql => some (.bool a.isNone)
    | some (.slice _), .neq => some (.bool (!a.isNone))
    | _, _ => none
  | .nilFunc, .nilFunc => match P.underlying t, op with
    | some (.func _ _ _), .eql => some (.bool true)
    | some (.func _ _ _), .neq => some (.bool false)
    | _, _ => none
  | .func _ _ _, .nilFunc => match P.underlying t, op with
    | some (.func _ _ _), .eql => some (.bool false)
    | some (.func _ _ _), .neq => some (.bool true)
    | _, _ => none
  | _, _ => none

theorem run_equalIn_ptr0 {P : Program} (w : World) (d : Nat) (t e : TypeId) (p : Option Addr) (hu : P.underlying t = some (.pointer e)) : (Op.equalIn (d + 1) t (.pointer p) (.pointer none)).run P w = .ok p.isNone w := by
  cases p <;> simp [Op.equalIn, run_underlying hu]
theorem run_equalIn_map0 {P : Program} (w : World) (d : Nat) (t e f : TypeId) (p : Option Nat) (hu : P.underlying t = some (.map e f)) : (Op.equalIn (d + 1) t (.map p) (.map none)).run P w = .ok p.isNone w := by
  cases p <;> simp [Op.equalIn, run_underlying hu]
theorem run_equalIn_slice0 {P : Program} (w : World) (d : Nat) (t e : TypeId) (p : Option Addr) (n c : Nat) (hu : P.underlying t = some (.slice e)) : (Op.equalIn (d + 1) t (.slice p n c) (.slice none 0 0)).run P w = .ok p.isNone w := by
  cases p <;> simp [Op.equalIn, run_underlying hu]
theorem run_equalIn_func0 {P : Program} (w : World) (d : Nat) (t : TypeId) (ps rs : Array TypeId) (v : Bool) (hu : P.underlying t = some (.func ps rs v)) : (Op.equalIn (d + 1) t .nilFunc .nilFunc).run P w = .ok true w := by
  simp [Op.equalIn, run_underlying hu]
theorem run_equalIn_func1 {P : Program} (w : World) (d : Nat) (t : TypeId) (ps rs : Array TypeId) (v : Bool) (f : Fn) (a b : Array Value) (hu : P.underlying t = some (.func ps rs v)) : (Op.equalIn (d + 1) t (.func f a b) .nilFunc).run P w = .ok false w := by
  simp [Op.equalIn, run_underlying hu]
/-- '==' and '!=' of two values that are no numbers, strings, structs. -/
theorem run_eq_other {P : Program} (w : World) (t : TypeId) (x y : Value) (b : Bool) (o1 o2 : Operand) (h : (Op.equalIn 10000 t x y).run P w = .ok b w)
    (he : binOp .eql t x y = (do pure (.bool (← Op.equal t x y)))) (hn : binOp .neq t x y = (do pure (.bool (!(← Op.equal t x y)))))
    (hg : ∀ op, (eqGuard op t o1 o2 x y).run P w = .ok () w) :
    ((do eqGuard .eql t o1 o2 x y; binOp .eql t x y) : Sem Value).run P w = .ok (.bool b) w ∧ ((do eqGuard .neq t o1 o2 x y; binOp .neq t x y) : Sem Value).run P w = .ok (.bool (!b)) w := by
  have h' : (Op.equal t x y).run P w = .ok b w := h
  rw [he, hn]
  constructor
  · simp only [Sem.run_bind, hg, Result.andThen_ok, h', Sem.run_pure]
  · simp only [Sem.run_bind, hg, Result.andThen_ok, h', Sem.run_pure]

theorem abin_run {P : Program} {G : Ctx} {op : BinOp} {t : TypeId} {x y x' y' v : Value} (h : abin P op t x y = some v) (hx : VRel G x x') (hy : VRel G y y') (o1 o2 : Operand) (w : World) :
    ∃ v', ((do eqGuard op t o1 o2 x' y'; binOp op t x' y') : Sem Value).run P w = .ok v' w ∧ VRel G v v' := by
  unfold abin at h
  split at h
  · rename_i k a k' b
    cases hx; cases hy
    have hg : (eqGuard op t o1 o2 (.int k a) (.int k' b)).run P w = .ok () w := by cases op <;> simp [eqGuard]
    simp only [Sem.run_bind, hg, Result.andThen_ok]
    split at h
    · exact ⟨_, ashV_run h P t w, by unfold ashV at h; split at h <;> simp at h; subst h; exact .int _ _⟩
    · exact ⟨_, ashV_run h P t w, by unfold ashV at h; split at h <;> simp at h; subst h; exact .int _ _⟩
    · rename_i h1 h2
      split at h
      · rename_i hk; subst hk
        refine ⟨_, aintV_run h h1 h2 P t w, ?_⟩
        cases op <;> simp only [aintV] at h <;> (try contradiction) <;> first | (cases h; first | exact .int _ _ | exact .bool _) | (split at h <;> cases h; exact .int _ _)
      · cases h
  · rename_i a b
    cases hx; cases hy
    have hg : (eqGuard op t o1 o2 (.string a) (.string b)).run P w = .ok () w := by cases op <;> simp [eqGuard]
    simp only [Sem.run_bind, hg, Result.andThen_ok]
    refine ⟨_, astrV_run h P t w, ?_⟩
    cases op <;> simp only [astrV] at h <;> (try contradiction) <;> first | (cases h; exact .bool _) | (split at h <;> cases h; exact .string _)
  · rename_i a b
    cases hx; cases hy
    split at h
    · rename_i hu
      have hu' : P.underlying t = some .bool := by cases hq : P.underlying t with
        | none => simp [hq] at hu
        | some d => cases d <;> simp_all
      have key := run_eq_other (P := P) w t (.bool a) (.bool b) (a == b) o1 o2 (run_equalIn_bool' w 9999 t a b hu') rfl rfl (fun op => by cases op <;> simp [eqGuard])
      cases op <;> simp only at h <;> (try contradiction) <;> cases h
      · exact ⟨_, key.1, .bool _⟩
      · exact ⟨_, key.2, .bool _⟩
    · cases h
  · rename_i xs ys
    split at h
    · cases h
    · rename_i hgd
      cases hx with
      | agg _ xs' h1 h2 =>
        cases hy with
        | agg _ ys' h3 h4 =>
          have hg := run_eqGuard_agg (P := P) w op t o1 o2 xs' ys' (by simpa using hgd)
          simp only [Sem.run_bind, hg, Result.andThen_ok]
          split at h
          · obtain ⟨b, hb, rfl⟩ := Option.map_eq_some_iff.1 h
            refine ⟨.bool b, ?_, .bool _⟩
            rw [run_eql_struct, aeq_run 20 t _ _ b _ _ hb (.agg _ _ h1 h2) (.agg _ _ h3 h4) 10000 (by omega)]
            rfl
          · obtain ⟨b, hb, rfl⟩ := Option.map_eq_some_iff.1 h
            refine ⟨.bool (!b), ?_, .bool _⟩
            rw [run_neq_struct, aeq_run 20 t _ _ b _ _ hb (.agg _ _ h1 h2) (.agg _ _ h3 h4) 10000 (by omega)]
            rfl
          · cases h
  · rename_i a
    cases hy
    have key : ∀ e : TypeId, P.underlying t = some (.pointer e) → ∀ p : Option Addr, _ := fun e hu p => run_eq_other (P := P) w t (.pointer p) (.pointer none) p.isNone o1 o2 (run_equalIn_ptr0 w 9999 t e p hu) (by cases p <;> rfl) (by cases p <;> rfl) (fun op => by cases op <;> simp [eqGuard])
    split at h
    · rename_i e hu
      cases h
      cases hx with
      | nilPtr => exact ⟨_, (key e hu _).1, .bool _⟩
      | ptr hk => exact ⟨_, (key e hu _).1, .bool _⟩
    · rename_i e hu
      cases h
      cases hx with
      | nilPtr => exact ⟨_, (key e hu _).2, .bool _⟩
      | ptr hk => exact ⟨_, (key e hu _).2, .bool _⟩
    · cases h
  · rename_i a
    cases hy
    have key : ∀ e f : TypeId, P.underlying t = some (.map e f) → ∀ p : Option Nat, _ := fun e f hu p => run_eq_other (P := P) w t (.map p) (.map none) p.isNone o1 o2 (run_equalIn_map0 w 9999 t e f p hu) rfl rfl (fun op => by cases op <;> simp [eqGuard])
    split at h
    · rename_i e f hu
      cases h
      cases hx with
      | nilMap => exact ⟨_, (key e f hu _).1, .bool _⟩
      | map hk => exact ⟨_, (key e f hu _).1, .bool _⟩
    · rename_i e f hu
      cases h
      cases hx with
      | nilMap => exact ⟨_, (key e f hu _).2, .bool _⟩
      | map hk => exact ⟨_, (key e f hu _).2, .bool _⟩
    · cases h
  · rename_i a n c
    cases hy
    have key : ∀ e : TypeId, P.underlying t = some (.slice e) → ∀ (p : Option Addr) (n c : Nat), _ := fun e hu p n c => run_eq_other (P := P) w t (.slice p n c) (.slice none 0 0) p.isNone o1 o2 (run_equalIn_slice0 w 9999 t e p n c hu) rfl rfl (fun op => by cases op <;> simp [eqGuard])
    split at h
    · rename_i e hu
      cases h
      cases hx with
      | nilSlice => exact ⟨_, (key e hu _ _ _).1, .bool _⟩
      | slice hk h1 h2 => exact ⟨_, (key e hu _ _ _).1, .bool _⟩
      | slice0 a a' es => exact ⟨_, (key e hu _ _ _).1, .bool _⟩
    · rename_i e hu
      cases h
      cases hx with
      | nilSlice => exact ⟨_, (key e hu _ _ _).2, .bool _⟩
      | slice hk h1 h2 => exact ⟨_, (key e hu _ _ _).2, .bool _⟩
      | slice0 a a' es => exact ⟨_, (key e hu _ _ _).2, .bool _⟩
    · cases h
  · cases hx; cases hy
    split at h
    · rename_i ps rs vv hu
      cases h
      exact ⟨_, (run_eq_other (P := P) w t .nilFunc .nilFunc true o1 o2 (run_equalIn_func0 w 9999 t ps rs vv hu) rfl rfl (fun op => by cases op <;> simp [eqGuard])).1, .bool _⟩
    · rename_i ps rs vv hu
      cases h
      exact ⟨_, (run_eq_other (P := P) w t .nilFunc .nilFunc true o1 o2 (run_equalIn_func0 w 9999 t ps rs vv hu) rfl rfl (fun op => by cases op <;> simp [eqGuard])).2, .bool _⟩
    · cases h
  · cases hy
    split at h
    · rename_i ps rs vv hu
      cases h
      cases hx <;> exact ⟨_, (run_eq_other (P := P) w t (.func _ _ _) .nilFunc false o1 o2 (run_equalIn_func1 w 9999 t ps rs vv _ _ _ hu) rfl rfl (fun op => by cases op <;> simp [eqGuard])).1, .bool _⟩
    · rename_i ps rs vv hu
      cases h
      cases hx <;> exact ⟨_, (run_eq_other (P := P) w t (.func _ _ _) .nilFunc false o1 o2 (run_equalIn_func1 w 9999 t ps rs vv _ _ _ hu) rfl rfl (fun op => by cases op <;> simp [eqGuard])).2, .bool _⟩
    · cases h
  · cases h
end Go.Eng

/- Operations that leave memory alone, the rest: addresses, loads, cuts, look-ups. -/
namespace Go.Eng
open Go.RowKit

/-! ### 1. Reading memory -/
def Mem.cells (m : Mem) (k : Nat) : Option (List Value) :=
  match m.h.get k with
  | some (.cells cs g _) => if m.ok g ≤ k then some cs else none
  | _ => none
theorem R.cells {G : Ctx} {B : Prot} {m : Mem} {w : World} (h : R G B m w) {k b d : Nat} {cs : List Value} (hk : G.f k = some (b, d)) (hc : m.cells k = some cs) :
    ∃ c t fz, w.heap[b]? = some (.cells c t fz) ∧ c.size = G.sz b ∧ d + cs.length ≤ c.size ∧ ∀ (i : Nat) (v : Value), cs[i]? = some v → v.oneCell' = true ∧ ∃ v', c[d + i]? = some v' ∧ VRel G v v' := by
  obtain ⟨o, ho, r⟩ := h.obj k b d hk
  unfold Mem.cells at hc
  rw [ho] at hc
  cases o <;> simp only at hc <;> (try contradiction)
  rename_i cs' g wr
  split at hc
  · rename_i hle
    cases hc
    obtain ⟨c, t, fz, h1, h2, h3, h4⟩ := r
    exact ⟨c, t, fz, h1, h2, (h4 hle).1, (h4 hle).2⟩
  · cases hc
theorem R.cell {G : Ctx} {B : Prot} {m : Mem} {w : World} (h : R G B m w) {k b d i : Nat} {cs : List Value} {v : Value} (hk : G.f k = some (b, d)) (hc : m.cells k = some cs) (hi : cs[i]? = some v) :
    v.oneCell' = true ∧ ∃ v', w.cell? ⟨b, d + i, none⟩ = some v' ∧ VRel G v v' := by
  obtain ⟨c, t, fz, h1, h2, h3, h4⟩ := h.cells hk hc
  obtain ⟨h5, v', h6, h7⟩ := h4 i v hi
  exact ⟨h5, v', by simp [World.cell?, h1, h6], h7⟩

/-- Some cells in a row, as the machine reads them. -/
theorem R.loadCells {G : Ctx} {B : Prot} {m : Mem} {w : World} (h : R G B m w) (P : Program) {k b d off n : Nat} {cs : List Value} (hk : G.f k = some (b, d)) (hc : m.cells k = some cs) (hn : off + n ≤ cs.length) :
    ∃ vs' : List Value, vs'.length = n ∧ (Go.loadCells ⟨b, d + off, none⟩ n).run P w = .ok vs'.toArray w ∧ (∀ j u, vs'[j]? = some u → w.cell? ((⟨b, d + off, none⟩ : Addr).add j) = some u) ∧
      ∀ (i : Nat) (x y : Value), ((cs.drop off).take n)[i]? = some x → vs'[i]? = some y → x.oneCell' = true ∧ VRel G x y := by
  obtain ⟨c, t, fz, h1, h2, h3, h4⟩ := h.cells hk hc
  have hlen : ((c.toList.drop (d + off)).take n).length = n := by simp; omega
  have hcell : ∀ j u, ((c.toList.drop (d + off)).take n)[j]? = some u → w.cell? ((⟨b, d + off, none⟩ : Addr).add j) = some u := fun j u hj => by
    rw [List.getElem?_take] at hj
    split at hj
    · rw [List.getElem?_drop, Array.getElem?_toList] at hj
      rw [Addr.add_lit]
      simp [World.cell?, h1, hj]
    · cases hj
  refine ⟨(c.toList.drop (d + off)).take n, hlen, ?_, hcell, fun i x y hx hy => ?_⟩
  · have := run_loadCells_list (P := P) w (⟨b, d + off, none⟩ : Addr) _ hcell
    rw [hlen] at this; exact this
  · rw [List.getElem?_take] at hx hy
    split at hx
    · rename_i hlt
      rw [if_pos hlt, List.getElem?_drop, Array.getElem?_toList] at hy
      rw [List.getElem?_drop] at hx
      obtain ⟨h5, v', h6, h7⟩ := h4 (off + i) x hx
      have e : d + (off + i) = d + off + i := by omega
      rw [e] at h6
      rw [hy] at h6; cases h6
      exact ⟨h5, h7⟩
    · cases hx

def aload (P : Program) (m : Mem) (t : TypeId) (v : Value) : Option Value :=
  match v with
  | .pointer (some ⟨k, off, none⟩) =>
    match m.cells k with
    | some cs =>
      match P.underlying t with
      | some (.struct _) | some (.array _ _) =>
        match P.info? t with
        | some i => if off + i.size ≤ cs.length then some (.agg ((cs.drop off).take i.size).toArray) else none
        | none => none
      | some _ => cs[off]?
      | none => none
    | none => none
  | _ => none
theorem isAgg_other {P : Program} {w : World} {t : TypeId} {d : TypeDesc} (hu : P.underlying t = some d) (h1 : ∀ fs, d = .struct fs → False) (h2 : ∀ n e, d = .array n e → False) : (isAgg t).run P w = .ok false w := by
  simp only [isAgg, Sem.run_bind, run_underlying hu, Result.andThen_ok]
  cases d <;> first | rfl | exact (h1 _ rfl).elim | exact (h2 _ _ rfl).elim
theorem isAgg_struct {P : Program} {w : World} {t : TypeId} {fs : Array Field} (hu : P.underlying t = some (.struct fs)) : (isAgg t).run P w = .ok true w := by
  simp [isAgg, run_underlying hu]
theorem isAgg_array {P : Program} {w : World} {t : TypeId} {n : Nat} {e : TypeId} (hu : P.underlying t = some (.array n e)) : (isAgg t).run P w = .ok true w := by
  simp [isAgg, run_underlying hu]
theorem aload_run {G : Ctx} {B : Prot} {m : Mem} {w : World} (hR : R G B m w) {P : Program} {t : TypeId} {x x' v : Value} (h : aload P m t x = some v) (hx : VRel G x x') :
    ∃ v', (Instr.loadAt t x').run P w = .ok v' w ∧ VRel G v v' := by
  unfold aload at h
  split at h
  · rename_i k off
    cases hx with
    | ptr hk =>
      rename_i b d
      split at h
      · rename_i cs hc
        have agg : ∀ i : TypeInfo, P.info? t = some i → (isAgg t).run P w = .ok true w → off + i.size ≤ cs.length → ∃ v', (Instr.loadAt t (.pointer (some ⟨b, d + off, none⟩))).run P w = .ok v' w ∧ VRel G (.agg ((cs.drop off).take i.size).toArray) v' := fun i hi ha hn => by
          obtain ⟨vs', hl, hr, _, hv⟩ := hR.loadCells P hk hc hn
          refine ⟨.agg vs'.toArray, ?_, .agg _ _ ?_ fun j x y hx hy => ?_⟩
          · simp [Instr.loadAt, Instr.sureAddr, loadVar, ha, sizeOf, typeInfo, hi, hr]
          · simp; omega
          · exact (hv j x y (by simpa using hx) (by simpa using hy)).2
        split at h
        · rename_i fs hu
          split at h
          · rename_i i hi
            split at h
            · rename_i hn; cases h; exact agg i hi (isAgg_struct hu) hn
            · cases h
          · cases h
        · rename_i n e hu
          split at h
          · rename_i i hi
            split at h
            · rename_i hn; cases h; exact agg i hi (isAgg_array hu) hn
            · cases h
          · cases h
        · rename_i dd h1 h2 hu
          obtain ⟨_, v', hv, hr⟩ := hR.cell hk hc h
          exact ⟨v', by simp [Instr.loadAt, Instr.sureAddr, loadVar, isAgg_other hu h1 h2, hv], hr⟩
        · cases h
      · cases h
  · cases h

/-! ### 2. Addresses and parts -/
def afieldAddr (P : Program) (s : TypeId) (x : Value) (f : Nat) : Option Value :=
  match x with
  | .pointer (some ⟨k, off, none⟩) =>
    match P.underlying s with
    | some (.struct fs) =>
      match fs[f]? with
      | some fd => match P.info? fd.type with
        | some i => if i.size = 0 then none else some (.pointer (some ⟨k, off + fd.offset, none⟩))
        | none => none
      | none => none
    | _ => none
  | _ => none
theorem afieldAddr_run {G : Ctx} {P : Program} {s : TypeId} {x x' v : Value} {f : Nat} (h : afieldAddr P s x f = some v) (hx : VRel G x x') (w : World) :
    ∃ v', (Instr.fieldAt s x' f).run P w = .ok v' w ∧ VRel G v v' := by
  unfold afieldAddr at h
  split at h
  · split at h
    · rename_i fs hu
      split at h
      · rename_i fd hf
        split at h
        · rename_i i hi
          split at h
          · cases h
          · rename_i hz
            cases h
            cases hx with
            | ptr hk =>
              rename_i b d
              refine ⟨_, ?_, .ptr hk⟩
              simp [Instr.fieldAt, run_underlying hu, hf, Instr.sureAddr, fieldPlace, sizeOf, typeInfo, hi, hz, Addr.add_lit, Nat.add_assoc]
        · cases h
      · cases h
    · cases h
  · cases h

def afield (P : Program) (t : TypeId) (x : Value) (f : Nat) : Option Value :=
  match x with
  | .agg cs =>
    match P.underlying t with
    | some (.struct fs) => match fs[f]? with
      | some fd => apart P fd.type cs fd.offset
      | none => none
    | _ => none
  | _ => none
theorem afield_run {G : Ctx} {P : Program} {t : TypeId} {x x' v : Value} {f : Nat} (h : afield P t x f = some v) (hx : VRel G x x') (w : World) :
    ∃ v', (Instr.field t x' f).run P w = .ok v' w ∧ VRel G v v' := by
  unfold afield at h
  split at h
  · cases hx with
    | agg _ cs' hs hv =>
      split at h
      · rename_i fs hu
        split at h
        · rename_i fd hf
          obtain ⟨v', h1, h2⟩ := apart_run h hs hv w
          exact ⟨v', by simp [Instr.field, run_underlying hu, hf, asAgg, h1], h2⟩
        · cases h
      · cases h
  · cases h

def aindexAddr (P : Program) (t : TypeId) (x i : Value) : Option Value :=
  match x, i with
  | .slice (some ⟨k, off, none⟩) n es, .int _ j =>
    match P.underlying t with
    | some (.slice e) => match P.info? e with
      | some inf => if inf.size = es ∧ 0 ≤ j ∧ j < n then some (.pointer (some ⟨k, off + j.toNat * es, none⟩)) else none
      | none => none
    | _ => none
  | .pointer (some ⟨k, off, none⟩), .int _ j =>
    match P.underlying t with
    | some (.array n e) => match P.info? e with
      | some inf => if 0 ≤ j ∧ j < n then some (.pointer (some ⟨k, off + j.toNat * inf.size, none⟩)) else none
      | none => none
    | _ => none
  | _, _ => none
theorem aindexAddr_run {G : Ctx} {P : Program} {t : TypeId} {x x' i i' v : Value} (h : aindexAddr P t x i = some v) (hx : VRel G x x') (hi : VRel G i i') (w : World) :
    ∃ v', (Instr.indexAt t x' i').run P w = .ok v' w ∧ VRel G v v' := by
  unfold aindexAddr at h
  split at h
  · rename_i k off n es kk j
    split at h
    · rename_i e hu
      split at h
      · rename_i inf hinf
        split at h
        · rename_i hc
          obtain ⟨h1, h2, h3⟩ := hc
          cases h
          cases hi
          cases hx with
          | slice hk hn hcap =>
            rename_i b d c
            refine ⟨_, ?_, .ptr hk⟩
            simp [Instr.indexAt, asIntOf, run_underlying hu, h2, h3, sizeOf, typeInfo, hinf, h1, Addr.add_lit, Nat.add_assoc]
          | slice0 => omega
        · cases h
      · cases h
    · cases h
  · rename_i k off kk j
    split at h
    · rename_i n e hu
      split at h
      · rename_i inf hinf
        split at h
        · rename_i hc
          obtain ⟨h2, h3⟩ := hc
          cases h
          cases hi
          cases hx with
          | ptr hk =>
            rename_i b d
            refine ⟨_, ?_, .ptr hk⟩
            simp [Instr.indexAt, asIntOf, Instr.sureAddr, run_underlying hu, h2, h3, sizeOf, typeInfo, hinf, Addr.add_lit, Nat.add_assoc]
        · cases h
      · cases h
    · cases h
  · cases h

def aindex (P : Program) (t : TypeId) (x i : Value) : Option Value :=
  match x, i with
  | .string s, .int _ j =>
    match P.underlying t with
    | some .string => if 0 ≤ j then (s[j.toNat]?).map fun b => .int .u8 b.toNat else none
    | _ => none
  | .agg cs, .int _ j =>
    match P.underlying t with
    | some (.array n e) => match P.info? e with
      | some inf => if 0 ≤ j ∧ j < n then apart P e cs (j.toNat * inf.size) else none
      | none => none
    | _ => none
  | _, _ => none
theorem aindex_run {G : Ctx} {P : Program} {t : TypeId} {x x' i i' v : Value} (h : aindex P t x i = some v) (hx : VRel G x x') (hi : VRel G i i') (w : World) :
    ∃ v', (Instr.index t x' i').run P w = .ok v' w ∧ VRel G v v' := by
  unfold aindex at h
  split at h
  · rename_i s kk j
    split at h
    · rename_i hu
      split at h
      · rename_i h0
        obtain ⟨b, hb, rfl⟩ := Option.map_eq_some_iff.1 h
        cases hi; cases hx
        exact ⟨_, by simp [Instr.index, asIntOf, run_underlying hu, h0, hb], .int _ _⟩
      · cases h
    · cases h
  · rename_i cs kk j
    split at h
    · rename_i n e hu
      split at h
      · rename_i inf hinf
        split at h
        · rename_i hc
          cases hi
          cases hx with
          | agg _ cs' hs hv =>
            obtain ⟨v', h1, h2⟩ := apart_run h hs hv w
            exact ⟨v', by simp [Instr.index, asIntOf, run_underlying hu, hc.1, hc.2, sizeOf, typeInfo, hinf, h1], h2⟩
        · cases h
      · cases h
    · cases h
  · cases h

/-! ### 3. Cuts -/
def abound (v : Option Value) (dflt y : Nat) : Option Nat :=
  match v with
  | none => some dflt
  | some (.int _ i) => if 0 ≤ i ∧ i ≤ y then some i.toNat else none
  | some _ => none
theorem abound_run {v v' : Option Value} {dflt y y' n : Nat} (h : abound v dflt y = some n) (hv : ∀ x, v = some x → ∃ x', v' = some x' ∧ ∃ G, VRel G x x') (hn : v = none → v' = none) (hy : y ≤ y') (code : BoundsCode) (P : Program) (w : World) :
    (v = none ∧ v' = none ∧ n = dflt) ∨ (∃ x', v' = some x' ∧ (Instr.sliceBound x' y' code).run P w = .ok n w ∧ n ≤ y) := by
  unfold abound at h
  split at h
  · cases h; exact .inl ⟨rfl, hn rfl, rfl⟩
  · rename_i k i
    split at h
    · rename_i hc
      cases h
      obtain ⟨x', hx', G, hr⟩ := hv _ rfl
      cases hr
      exact .inr ⟨_, hx', run_sliceBound w k i y' code hc.1 (by omega), by omega⟩
    · cases h
  · cases h
def aslice (P : Program) (t : TypeId) (x : Value) (lo hi : Option Value) : Option Value :=
  match x with
  | .string s =>
    match P.underlying t with
    | some .string => match abound hi s.size s.size with
      | some h => match abound lo 0 h with
        | some l => some (.string (s.extract l h))
        | none => none
      | none => none
    | _ => none
  | .slice a n es =>
    match P.underlying t with
    | some (.slice e) => match P.info? e with
      | some inf => match abound hi n n with
        | some h => match abound lo 0 h with
          | some l => match a with
            | none => if n = 0 ∧ es = 0 then some (.slice none 0 0) else none
            | some ⟨k, off, none⟩ => if inf.size = es then some (.slice (some ⟨k, off + l * es, none⟩) (h - l) es) else none
            | _ => none
          | none => none
        | none => none
      | none => none
    | _ => none
  | _ => none
theorem aslice_run {G : Ctx} {P : Program} {t : TypeId} {x x' v : Value} {lo hi lo' hi' : Option Value} (h : aslice P t x lo hi = some v) (hx : VRel G x x')
    (hlo : (lo = none → lo' = none) ∧ ∀ y, lo = some y → ∃ y', lo' = some y' ∧ VRel G y y') (hhi : (hi = none → hi' = none) ∧ ∀ y, hi = some y → ∃ y', hi' = some y' ∧ VRel G y y') (w : World) :
    ∃ v', (Instr.sliceAt t x' lo' hi' none).run P w = .ok v' w ∧ VRel G v v' := by
  have hlo' : ∀ y, lo = some y → ∃ y', lo' = some y' ∧ ∃ G, VRel G y y' := fun y hy => let ⟨y', a, b⟩ := hlo.2 y hy; ⟨y', a, G, b⟩
  have hhi' : ∀ y, hi = some y → ∃ y', hi' = some y' ∧ ∃ G, VRel G y y' := fun y hy => let ⟨y', a, b⟩ := hhi.2 y hy; ⟨y', a, G, b⟩
  unfold aslice at h
  split at h
  · rename_i s
    cases hx
    split at h
    · rename_i hu
      split at h
      · rename_i hh hb
        split at h
        · rename_i ll lb
          cases h
          refine ⟨_, ?_, .string _⟩
          have e : (Instr.sliceBounds false s.size s.size lo' hi' none).run P w = .ok (ll, hh, s.size) w := by
            rcases abound_run hb hhi' hhi.1 (Nat.le_refl _) .sliceAlen P w with ⟨_, e1, e2⟩ | ⟨y, e1, e2, _⟩ <;> rcases abound_run lb hlo' hlo.1 (Nat.le_refl _) .sliceB P w with ⟨_, f1, f2⟩ | ⟨z, f1, f2, _⟩ <;> subst_vars <;> simp_all [Instr.sliceBounds]
          simp [Instr.sliceAt, run_underlying hu, Instr.slice, e]
        · cases h
      · cases h
    · cases h
  · rename_i a n es
    split at h
    · rename_i e hu
      split at h
      · rename_i inf hinf
        split at h
        · rename_i hh hb
          split at h
          · rename_i ll lb
            have hbounds : ∀ c, n ≤ c → (Instr.sliceBounds true n c lo' hi' none).run P w = .ok (ll, hh, c) w ∧ ll ≤ hh ∧ hh ≤ n := fun c hc => by
              have q1 : hh ≤ n := by
                rcases abound_run hb hhi' hhi.1 (Nat.le_refl _) .sliceAlen P w with ⟨_, e1, e2⟩ | ⟨y, e1, e2, e3⟩ <;> omega
              have q2 : ll ≤ hh := by
                rcases abound_run lb hlo' hlo.1 (Nat.le_refl _) .sliceB P w with ⟨_, f1, f2⟩ | ⟨z, f1, f2, f3⟩ <;> omega
              refine ⟨?_, q2, q1⟩
              rcases abound_run hb hhi' hhi.1 hc .sliceAcap P w with ⟨_, e1, e2⟩ | ⟨y, e1, e2, _⟩ <;> rcases abound_run lb hlo' hlo.1 (Nat.le_refl _) .sliceB P w with ⟨_, f1, f2⟩ | ⟨z, f1, f2, _⟩ <;> subst_vars <;> simp_all [Instr.sliceBounds]
            split at h
            · split at h
              · rename_i hz
                obtain ⟨rfl, rfl⟩ := hz
                cases h
                cases hx
                obtain ⟨e1, e2, e3⟩ := hbounds 0 (Nat.le_refl _)
                obtain rfl : hh = 0 := by omega
                obtain rfl : ll = 0 := by omega
                exact ⟨_, by simp [Instr.sliceAt, run_underlying hu, Instr.slice, e1, sizeOf, typeInfo, hinf], .nilSlice⟩
              · cases h
            · rename_i k off
              split at h
              · rename_i hsz
                cases h
                cases hx with
                | slice hk hn hcap =>
                  rename_i b d c
                  obtain ⟨e1, e2, e3⟩ := hbounds c hn
                  by_cases hcl : c = ll
                  · subst hcl
                    have : hh - c = 0 := by omega
                    refine ⟨.slice (some ⟨b, d + off, none⟩) 0 0, by simp [Instr.sliceAt, run_underlying hu, Instr.slice, e1, sizeOf, typeInfo, hinf, this], ?_⟩
                    rw [this]; exact .slice0 _ _ _
                  · refine ⟨.slice (some ⟨b, d + (off + ll * es), none⟩) (hh - ll) (c - ll), by simp [Instr.sliceAt, run_underlying hu, Instr.slice, e1, sizeOf, typeInfo, hinf, hcl, hsz, Addr.add_lit, Nat.add_assoc], .slice hk (by omega) ?_⟩
                    have : (c - ll) * es + ll * es = c * es := by rw [← Nat.add_mul]; congr 1; omega
                    omega
                | slice0 _ a' =>
                  obtain ⟨e1, e2, e3⟩ := hbounds 0 (by omega)
                  obtain rfl : hh = 0 := by omega
                  obtain rfl : ll = 0 := by omega
                  exact ⟨_, by simp [Instr.sliceAt, run_underlying hu, Instr.slice, e1, sizeOf, typeInfo, hinf]; rfl, .slice0 _ _ _⟩
              · cases h
            · cases h
          · cases h
        · cases h
      · cases h
    · cases h
  · cases h
end Go.Eng

/- Look-ups in maps; all light operations together. -/
namespace Go.Eng
open Go.RowKit

/-! ### 1. Keys -/
def akeyFields (P : Program) (ok : TypeId → Value → Bool) (cs : Array Value) : List Field → Bool
  | [] => true
  | f :: fs => if f.name ≠ "_" then (match apart P f.type cs f.offset with | some v => ok f.type v && akeyFields P ok cs fs | none => false) else akeyFields P ok cs fs
def akey (P : Program) : Nat → TypeId → Value → Bool
  | 0, _, _ => false
  | d + 1, t, v =>
    match P.underlying t, v with
    | some .bool, .bool _ | some (.int _), .int _ _ | some .string, .string _ => true
    | some (.struct fs), .agg cs => akeyFields P (akey P d) cs fs.toList
    | _, _ => false
theorem run_checkKey_struct {P : Program} {w : World} (e : Bool) (d : Nat) (t : TypeId) (cs : Array Value) (fs : Array Field) (hu : P.underlying t = some (.struct fs))
    (h : ∀ f ∈ fs.toList, f.name ≠ "_" → ∃ v, (part f.type cs f.offset).run P w = .ok v w ∧ (Instr.checkKey e d f.type v).run P w = .ok () w) :
    (Instr.checkKey e (d + 1) t (.agg cs)).run P w = .ok () w := by
  simp only [Instr.checkKey, Sem.run_bind, run_underlying hu, Result.andThen_ok]
  rw [← Array.forIn_toList]
  generalize fs.toList = l at h
  clear hu
  induction l with
  | nil => rfl
  | cons f l ih =>
    simp only [List.forIn_cons, Sem.run_bind, Sem.run_ite]
    have ih' := ih (fun g hg hn => h g (List.mem_cons_of_mem _ hg) hn)
    split
    · rename_i hn
      obtain ⟨v, h1, h2⟩ := h f (List.mem_cons_self ..) hn
      simp only [h1, h2, Result.andThen_ok, Sem.run_pure]
      exact ih'
    · simp only [Sem.run_pure, Result.andThen_ok]
      exact ih'
theorem akeyFields_spec {P : Program} {ok : TypeId → Value → Bool} {cs : Array Value} : ∀ (fs : List Field), akeyFields P ok cs fs = true → ∀ f ∈ fs, f.name ≠ "_" → ∃ v, apart P f.type cs f.offset = some v ∧ ok f.type v = true := by
  intro fs
  induction fs with
  | nil => intro _ f hf; cases hf
  | cons g fs ih =>
    intro h f hf hn
    simp only [akeyFields] at h
    by_cases hg : g.name ≠ "_"
    · rw [if_pos hg] at h
      split at h
      · rename_i v hv
        simp only [Bool.and_eq_true] at h
        rcases List.mem_cons.1 hf with rfl | hf
        · exact ⟨v, hv, h.1⟩
        · exact ih h.2 f hf hn
      · cases h
    · rw [if_neg hg] at h
      rcases List.mem_cons.1 hf with rfl | hf
      · exact absurd hn hg
      · exact ih h f hf hn
theorem akey_run {P : Program} {G : Ctx} {w : World} (e : Bool) : ∀ (d : Nat) (t : TypeId) (v v' : Value), akey P d t v = true → VRel G v v' → ∀ D, d ≤ D → (Instr.checkKey e D t v').run P w = .ok () w := by
  intro d
  induction d with
  | zero => intro t v v' h; simp [akey] at h
  | succ d ih =>
    intro t v v' h hv D hD
    obtain ⟨D, rfl⟩ : ∃ E, D = E + 1 := ⟨D - 1, by omega⟩
    simp only [akey] at h
    split at h
    · rename_i hu; cases hv; simp [Instr.checkKey, run_underlying hu]
    · rename_i hu; cases hv; simp [Instr.checkKey, run_underlying hu]
    · rename_i hu; cases hv; simp [Instr.checkKey, run_underlying hu]
    · rename_i fs cs hu
      cases hv with
      | agg _ cs' hs hvv =>
        refine run_checkKey_struct e D t cs' fs hu fun f hf hn => ?_
        obtain ⟨v, hp, hk⟩ := akeyFields_spec _ h f hf hn
        obtain ⟨u, h1, h2⟩ := apart_run hp hs hvv w
        exact ⟨u, h1, ih f.type v u hk h2 D (by omega)⟩
    · cases h
/-- A key reads alike on both sides: it holds no address. -/
def afind (P : Program) (kt : TypeId) (k : Value) : List MapEntry → Nat → Option (Option (Nat × Value))
  | [], _ => some none
  | e :: es, i =>
    match aeq P 20 kt k e.key with
    | some true => some (some (i, e.val))
    | some false => afind P kt k es (i + 1)
    | none => none
def ERel (G : Ctx) (e e' : MapEntry) : Prop := VRel G e.key e'.key ∧ VRel G e.val e'.val ∧ e'.born = e.born
inductive LRel (G : Ctx) : List MapEntry → List MapEntry → Prop
  | nil : LRel G [] []
  | cons {e e' : MapEntry} {l l' : List MapEntry} (h : ERel G e e') (t : LRel G l l') : LRel G (e :: l) (e' :: l')
theorem LRel.of {G : Ctx} : ∀ (l l' : List MapEntry), l'.length = l.length → (∀ (i : Nat) (e : MapEntry), l[i]? = some e → ∃ e', l'[i]? = some e' ∧ ERel G e e') → LRel G l l'
  | [], [], _, _ => .nil
  | [], _ :: _, h, _ => by simp at h
  | _ :: _, [], h, _ => by simp at h
  | e :: l, e' :: l', h, hr => by
    obtain ⟨e2, h1, h2⟩ := hr 0 e rfl
    simp only [List.getElem?_cons_zero, Option.some.injEq] at h1
    subst h1
    exact .cons h2 (LRel.of l l' (by simpa using h) fun i x hx => hr (i + 1) x (by simpa using hx))
theorem afind_asking {P : Program} {G : Ctx} {w : World} {kt : TypeId} {k k' : Value} (hk : VRel G k k') : ∀ {l l' : List MapEntry}, LRel G l l' → ∀ (i : Nat) (r : Option (Nat × Value)), afind P kt k l i = some r →
    ∃ r', (Instr.findAsking kt k' l' i).run P w = .ok r' w ∧ ((r = none ∧ r' = none) ∨ ∃ j v v', r = some (j, v) ∧ r' = some (j, v') ∧ VRel G v v') := by
  intro l l' h
  induction h with
  | nil => intro i r h; simp only [afind, Option.some.injEq] at h; subst h; exact ⟨none, rfl, .inl ⟨rfl, rfl⟩⟩
  | cons he ht ih =>
    rename_i e e' l l'
    intro i r h
    simp only [afind] at h
    split at h
    · rename_i hq
      cases h
      have := aeq_run (w := w) 20 kt _ _ _ _ _ hq hk he.1 10000 (by omega)
      exact ⟨some (i, e'.val), by simp [Instr.findAsking, Op.equal, Op.maxDepth, this], .inr ⟨i, _, _, rfl, rfl, he.2.1⟩⟩
    · rename_i hq
      have := aeq_run (w := w) 20 kt _ _ _ _ _ hq hk he.1 10000 (by omega)
      obtain ⟨r', h1, h2⟩ := ih (i + 1) r h
      exact ⟨r', by simp [Instr.findAsking, Op.equal, Op.maxDepth, this, h1], h2⟩
    · cases h
theorem VRel.inv_leaf {G : Ctx} {v u : Value} (h : VRel G v u) (hu : (match u with | .int _ _ | .string _ | .bool _ => true | _ => false) = true) : v = u ∨ (∃ j, v = .chan (some j)) ∨ ∃ c x, v = .iface c x := by
  cases h <;> first | exact .inl rfl | exact .inr (.inl ⟨_, rfl⟩) | exact .inr (.inr ⟨_, _, rfl⟩) | cases hu
theorem aeq_chanL {P : Program} {d : Nat} {t : TypeId} {n : Option Nat} {y : Value} : aeq P d t (.chan n) y = none := by
  cases d with
  | zero => rfl
  | succ d => simp only [aeq]; split <;> first | rfl | contradiction
theorem aeq_chanR {P : Program} {d : Nat} {t : TypeId} {n : Option Nat} {x : Value} : aeq P d t x (.chan n) = none := by
  cases d with
  | zero => rfl
  | succ d => simp only [aeq]; split <;> first | rfl | contradiction
theorem aeq_ifaceL {P : Program} {d : Nat} {t : TypeId} {n : TypeId} {x y : Value} : aeq P d t (.iface n x) y = none := by
  cases d with
  | zero => rfl
  | succ d => simp only [aeq]; split <;> first | rfl | contradiction
theorem aeq_ifaceR {P : Program} {d : Nat} {t : TypeId} {n : TypeId} {x y : Value} : aeq P d t x (.iface n y) = none := by
  cases d with
  | zero => rfl
  | succ d => simp only [aeq]; split <;> first | rfl | contradiction
theorem aeq_leaf {P : Program} {G : Ctx} {d : Nat} {t : TypeId} {x y u v : Value} {b : Bool} (h : aeq P d t x y = some b) (hx : VRel G x u) (hy : VRel G y v) (hu : (match u with | .int _ _ | .string _ | .bool _ => true | _ => false) = true) (hv : (match v with | .int _ _ | .string _ | .bool _ => true | _ => false) = true) : x = u ∧ y = v := by
  rcases hx.inv_leaf hu with rfl | ⟨j, rfl⟩ | ⟨c, z, rfl⟩
  · rcases hy.inv_leaf hv with rfl | ⟨j, rfl⟩ | ⟨c, z, rfl⟩
    · exact ⟨rfl, rfl⟩
    · rw [aeq_chanR] at h; cases h
    · rw [aeq_ifaceR] at h; cases h
  · rw [aeq_chanL] at h; cases h
  · rw [aeq_ifaceL] at h; cases h
theorem afind_now {P : Program} {G : Ctx} {kt : TypeId} {k k' : Value} {d : TypeDesc} (hu : P.underlying kt = some d) (hk : VRel G k k') : ∀ {l l' : List MapEntry}, LRel G l l' → ∀ (i : Nat) (r : Option (Nat × Value)) (s : Option (Nat × Value)), afind P kt k l i = some r → Instr.findNow d k' l' i = some s →
    ((r = none ∧ s = none) ∨ ∃ j v v', r = some (j, v) ∧ s = some (j, v') ∧ VRel G v v') := by
  intro l l' h
  induction h with
  | nil => intro i r s h h'; simp only [afind, Option.some.injEq] at h; simp only [Instr.findNow, Option.some.injEq] at h'; subst h; subst h'; exact .inl ⟨rfl, rfl⟩
  | cons he ht ih =>
    rename_i e e' l l'
    intro i r s h h'
    simp only [afind] at h
    simp only [Instr.findNow] at h'
    have same : ∀ b b', aeq P 20 kt k e.key = some b → Instr.sameNow d k' e'.key = some b' → b = b' := fun b b' hb hb' => by
      unfold Instr.sameNow at hb'
      have hkey := he.1
      split at hb'
      · rename_i kk a k2 b2 _ _
        rename_i heq
        rw [heq] at hkey
        obtain ⟨q1, q2⟩ := aeq_leaf hb hk hkey rfl rfl
        rw [q1, q2] at hb
        simp only [aeq, hu] at hb
        split at hb' <;> rename_i hkk
        · rw [if_pos hkk] at hb; cases hb; cases hb'; rfl
        · cases hb'
      · rename_i a b2 _
        rename_i heq
        rw [heq] at hkey
        obtain ⟨q1, q2⟩ := aeq_leaf hb hk hkey rfl rfl
        rw [q1, q2] at hb
        simp only [aeq, hu] at hb
        cases hb; cases hb'; rfl
      · rename_i a b2 _
        rename_i heq
        rw [heq] at hkey
        obtain ⟨q1, q2⟩ := aeq_leaf hb hk hkey rfl rfl
        rw [q1, q2] at hb
        simp only [aeq, hu] at hb
        cases hb; cases hb'; rfl
      · cases hb'
    split at h' <;> rename_i hs'
    · split at h <;> rename_i hq
      · cases h; cases h'; exact .inr ⟨i, _, _, rfl, rfl, he.2.1⟩
      · have := same _ _ hq hs'; cases this
      · cases h
    · split at h <;> rename_i hq
      · have := same _ _ hq hs'; cases this
      · exact ih (i + 1) r s h h'
      · cases h
    · cases h'
theorem afind_run {P : Program} {G : Ctx} {w : World} {kt : TypeId} {k k' : Value} {d : TypeDesc} (hu : P.underlying kt = some d) (hk : VRel G k k') {l l' : List MapEntry} (hl : LRel G l l') {r : Option (Nat × Value)} (h : afind P kt k l 0 = some r) :
    ∃ r', (Instr.findKey kt k' l').run P w = .ok r' w ∧ ((r = none ∧ r' = none) ∨ ∃ j v v', r = some (j, v) ∧ r' = some (j, v') ∧ VRel G v v') := by
  simp only [Instr.findKey, Sem.run_bind, run_underlying hu, Result.andThen_ok]
  cases hn : Instr.findNow d k' l' 0 with
  | some s => exact ⟨s, rfl, afind_now hu hk hl 0 r s h hn⟩
  | none => exact afind_asking hk hl 0 r h

def zeroOk (z : Value) : Bool := plainV z || (match z with | .agg cs => cs.toList.all plainV | _ => false)
def alookup (P : Program) (m : Mem) (t : TypeId) (x k : Value) (ok : Bool) : Option Value :=
  match P.underlying t with
  | some (.map kt et) =>
    let es := match x with
      | .map none => some []
      | .map (some r) => match m.h.get r with | some (.map es _ _) => some es | _ => none
      | _ => none
    match es, P.underlying kt, P.info? et with
    | some es, some _, some inf =>
      if akey P 20 kt k then
        match afind P kt k es 0 with
        | some (some p) => some (if ok then .tuple #[p.2, .bool true] else p.2)
        | some none => match inf.zero with
          | some z => if zeroOk z then some (if ok then .tuple #[z, .bool false] else z) else none
          | none => none
        | none => none
      else none
    | _, _, _ => none
  | _ => none
theorem plainZ_rel {z : Value} (G : Ctx) (h : zeroOk z = true) : VRel G z z := by
  unfold zeroOk at h
  simp only [Bool.or_eq_true] at h
  rcases h with h | h
  · exact plainV_rel G h
  · split at h
    · rename_i cs
      refine .agg _ _ rfl fun i x y hx hy => ?_
      rw [hx] at hy; cases hy
      have : x ∈ cs.toList := by
        have := Array.mem_of_getElem? hx
        simpa using this
      exact plainV_rel G (List.all_eq_true.1 h x this)
    · cases h
theorem VRel.pair {G : Ctx} {a a' b b' : Value} (h : VRel G a a') (k : VRel G b b') : VRel G (.tuple #[a, b]) (.tuple #[a', b']) := by
  refine .tuple _ _ rfl fun i x y hx hy => ?_
  match i with
  | 0 => simp at hx hy; subst hx; subst hy; exact h
  | 1 => simp at hx hy; subst hx; subst hy; exact k
  | i + 2 => simp at hx
theorem R.entries {G : Ctx} {B : Prot} {m : Mem} {w : World} (h : R G B m w) {k b d : Nat} {es : List MapEntry} {cl : Nat} {wr : Bool} (hk : G.f k = some (b, d)) (ho : m.h.get k = some (.map es cl wr)) :
    d = 0 ∧ (wr = true → B.free b) ∧ ∃ es' : Array MapEntry, w.heap[b]? = some (.map es' cl) ∧ LRel G es es'.toList := by
  obtain ⟨o, ho', r⟩ := h.obj k b d hk
  rw [ho] at ho'; cases ho'
  obtain ⟨h0, h1, es', h2, h3, h4⟩ := r
  exact ⟨h0, h1, es', h2, LRel.of _ _ (by simpa using h3) fun i e he => let ⟨e', a, b, c, dd⟩ := h4 i e he; ⟨e', by simpa using a, b, c, dd⟩⟩
theorem run_getObj_map {P : Program} {w : World} {b : Nat} {es : Array MapEntry} {cl : Nat} (h : w.heap[b]? = some (.map es cl)) : (getObj b).run P w = .ok (.map es cl) w := by
  simp [getObj, Sem.run, h]
theorem LRel.isEmpty {G : Ctx} {l l' : List MapEntry} (h : LRel G l l') : l'.isEmpty = l.isEmpty := by cases h <;> rfl
theorem alookup_run {G : Ctx} {B : Prot} {m : Mem} {w : World} (hR : R G B m w) {P : Program} {t : TypeId} {x k x' k' v : Value} {ok : Bool} (h : alookup P m t x k ok = some v) (hx : VRel G x x') (hk : VRel G k k') :
    ∃ v', (Instr.lookup t x' k' ok).run P w = .ok v' w ∧ VRel G v v' := by
  unfold alookup at h
  split at h
  · rename_i kt et hu
    simp only at h
    split at h
    · rename_i es dk inf hes hkt hinf
      split at h
      · rename_i hkey
        have rest : ∀ es' : Array MapEntry, LRel G es es'.toList → ∃ (r' : Option (Nat × Value)) (v' : Value), (Instr.checkKey es'.isEmpty 10000 kt k').run P w = .ok () w ∧ (Instr.findKey kt k' es'.toList).run P w = .ok r' w ∧ VRel G v v' ∧
            ((∃ j u, r' = some (j, u) ∧ v' = if ok = true then .tuple #[u, .bool true] else u) ∨ (r' = none ∧ ∃ z, inf.zero = some z ∧ v' = if ok = true then .tuple #[z, .bool false] else z)) := by
          intro es' hl
          have hchk := akey_run (w := w) (P := P) es'.isEmpty 20 kt k k' hkey hk 10000 (by omega)
          split at h
          · rename_i p hf
            obtain ⟨r', h1, h2⟩ := afind_run (w := w) hkt hk hl hf
            rcases h2 with ⟨h2, _⟩ | ⟨j, v1, v2, h2, rfl, hv⟩
            · cases h2
            · cases h2
              refine ⟨_, if ok then .tuple #[v2, .bool true] else v2, hchk, h1, ?_, .inl ⟨j, v2, rfl, rfl⟩⟩
              cases h; split
              · exact hv.pair (.bool _)
              · exact hv
          · rename_i hf
            split at h
            · rename_i z hz
              split at h
              · rename_i hp
                obtain ⟨r', h1, h2⟩ := afind_run (w := w) hkt hk hl hf
                rcases h2 with ⟨_, rfl⟩ | ⟨j, v1, v2, h2, _⟩
                · refine ⟨_, if ok then .tuple #[z, .bool false] else z, hchk, h1, ?_, .inr ⟨rfl, z, hz, rfl⟩⟩
                  cases h; split
                  · exact (plainZ_rel G hp).pair (.bool _)
                  · exact plainZ_rel G hp
                · cases h2
              · cases h
            · cases h
          · cases h
        split at hes
        · cases hes
          cases hx
          obtain ⟨r', v', h1, h2, h3, h4⟩ := rest #[] .nil
          refine ⟨v', ?_, h3⟩
          rcases h4 with ⟨j, u, rfl, rfl⟩ | ⟨rfl, z, hz, rfl⟩
          · simp [Instr.lookup, run_underlying hu] at h1 h2 ⊢
            simp [h1, h2]
          · simp [Instr.lookup, run_underlying hu] at h1 h2 ⊢
            simp [h1, h2, zeroValue, typeInfo, hinf, hz]
        · rename_i r
          split at hes
          · rename_i es2 cl wr ho
            cases hes
            cases hx with
            | map hf =>
              rename_i b
              obtain ⟨_, _, es', h2, h3⟩ := hR.entries hf ho
              obtain ⟨r', v', g1, g2, g3, g4⟩ := rest es' h3
              refine ⟨v', ?_, g3⟩
              rcases g4 with ⟨j, u, rfl, rfl⟩ | ⟨rfl, z, hz, rfl⟩
              · simp [Instr.lookup, run_underlying hu, run_getObj_map h2] at g1 g2 ⊢
                simp [g1, g2]
              · simp [Instr.lookup, run_underlying hu, run_getObj_map h2] at g1 g2 ⊢
                simp [g1, g2, zeroValue, typeInfo, hinf, hz]
          · cases hes
        · cases hes
      · cases h
    · cases h
  · cases h
end Go.Eng

/- All operations that leave memory alone, in one function. -/
namespace Go.Eng
open Go.RowKit

def AAct.evs (a : AAct) : List Operand → Option (List Value)
  | [] => some []
  | x :: l => match a.ev x, a.evs l with
    | some v, some vs => some (v :: vs)
    | _, _ => none
inductive VL (G : Ctx) : List Value → List Value → Prop
  | nil : VL G [] []
  | cons {v v' : Value} {l l' : List Value} (h : VRel G v v') (t : VL G l l') : VL G (v :: l) (v' :: l')
theorem VL.length {G : Ctx} {l l' : List Value} (h : VL G l l') : l'.length = l.length := by induction h with
  | nil => rfl
  | cons _ _ ih => simp [ih]
theorem VL.get {G : Ctx} {l l' : List Value} (h : VL G l l') : ∀ (i : Nat) (x y : Value), l[i]? = some x → l'[i]? = some y → VRel G x y := by
  induction h with
  | nil => intro i x y hx; simp at hx
  | cons hv ht ih =>
    intro i x y hx hy
    cases i with
    | zero => simp at hx hy; subst hx; subst hy; exact hv
    | succ i => exact ih i x y (by simpa using hx) (by simpa using hy)
theorem VL.mono {G G' : Ctx} (e : Ext G G') {l l' : List Value} (h : VL G l l') : VL G' l l' := by
  induction h with
  | nil => exact .nil
  | cons hv ht ih => exact .cons (hv.mono e) ih
theorem VL.arr {G : Ctx} {l l' : List Value} (h : VL G l l') : ∀ (i : Nat) (x y : Value), l.toArray[i]? = some x → l'.toArray[i]? = some y → VRel G x y := fun i x y hx hy => h.get i x y (by simpa using hx) (by simpa using hy)
theorem ARel.evs {G : Ctx} {a : AAct} {a' : Act} (h : ARel G a a'.tmps) : ∀ {l : List Operand} {vs : List Value}, a.evs l = some vs → VL G vs (l.map a'.eval)
  | [], vs, hv => by simp only [AAct.evs, Option.some.injEq] at hv; subst hv; exact .nil
  | x :: l, vs, hv => by
    simp only [AAct.evs] at hv
    split at hv
    · rename_i v us h1 h2
      cases hv
      exact .cons (h.ev h1) (h.evs h2)
    · cases hv

def aunV (op : UnOp) (x : Value) : Option Value :=
  match op, x with
  | .not, .bool b => some (.bool !b)
  | .neg, .int k n => some (.int k (k.wrap (0 - n)))
  | .xor, .int k n => aintV .xor k (if k.signed then -1 else k.max) n
  | _, _ => none
def aconv (P : Program) (s d : TypeId) (x : Value) : Option Value :=
  match P.underlying s, P.underlying d, x with
  | some _, some (.int k), .int _ n => some (.int k (k.wrap n))
  | some .string, some .string, .string b => some (.string b)
  | _, _, _ => none
def alen (P : Program) (m : Mem) (ts : Array TypeId) (args : List Value) : Option Value :=
  match ts[0]?, args with
  | some t, [x] =>
    match P.underlying t, x with
    | some .string, .string s => some (goInt s.size)
    | some (.slice _), .slice _ n _ => some (goInt n)
    | some (.array n _), _ => some (goInt n)
    | some (.map _ _), .map none => some (goInt 0)
    | some (.map _ _), .map (some r) => match m.h.get r with
      | some (.map es _ _) => some (goInt es.length)
      | _ => none
    | _, _ => none
  | _, _ => none
def mn2 (x y : Int) : Int := if y < x then y else x
def mx2 (x y : Int) : Int := if y > x then y else x
def min4 (x y z u : Int) : Int := mn2 (mn2 (mn2 x y) z) u
def max4 (x y z u : Int) : Int := mx2 (mx2 (mx2 x y) z) u
theorem run_min4 {P : Program} {w : World} (ts : Array TypeId) (t : TypeId) (k k' k'' k3 : IntKind) (x y z u : Int) : (Builtin.min_ ts t #[.int k x, .int k' y, .int k'' z, .int k3 u]).run P w = .ok (.int k (min4 x y z u)) w := by
  simp [Builtin.min_, Builtin.min2, min4, mn2] <;> rfl
theorem run_max4 {P : Program} {w : World} (ts : Array TypeId) (t : TypeId) (k k' k'' k3 : IntKind) (x y z u : Int) : (Builtin.max_ ts t #[.int k x, .int k' y, .int k'' z, .int k3 u]).run P w = .ok (.int k (max4 x y z u)) w := by
  simp [Builtin.max_, Builtin.max2, max4, mx2] <;> rfl
def abuiltin (P : Program) (m : Mem) (b : Builtin) (ts : Array TypeId) (args : List Value) : Option Value :=
  match b, args with
  | .len, args => alen P m ts args
  | .min, [.int k x, .int _ y] => some (.int k (if y < x then y else x))
  | .max, [.int k x, .int _ y] => some (.int k (if y > x then y else x))
  | .min, [.int k x, .int _ y, .int _ z, .int _ u] => some (.int k (min4 x y z u))
  | .max, [.int k x, .int _ y, .int _ z, .int _ u] => some (.int k (max4 x y z u))
  | _, _ => none
def aval (P : Program) (m : Mem) (a : AAct) : Go.Op → Option Value
  | .move x | .assign x => a.ev x
  | .pick c x y => match a.ev c, a.ev x, a.ev y with
    | some (.bool b), some u, some v => some (if b then u else v)
    | _, _, _ => none
  | .nilCheck x => match a.ev x with
    | some (.pointer (some ad)) => some (.pointer (some ad))
    | some (.func (.func f) p q) => some (.func (.func f) p q)
    | some (.func (.yield f) p q) => some (.func (.yield f) p q)
    | _ => none
  | .binOp op t x y _ => match a.ev x, a.ev y with
    | some u, some v => abin P op t u v
    | _, _ => none
  | .unOp op _ x => match a.ev x with
    | some u => aunV op u
    | none => none
  | .convert s d x => match a.ev x with
    | some u => aconv P s d u
    | none => none
  | .fieldAddr s x f => match a.ev x with
    | some u => afieldAddr P s u f
    | none => none
  | .field t x f => match a.ev x with
    | some u => afield P t u f
    | none => none
  | .indexAddr t x i => match a.ev x, a.ev i with
    | some u, some v => aindexAddr P t u v
    | _, _ => none
  | .index t x i => match a.ev x, a.ev i with
    | some u, some v => aindex P t u v
    | _, _ => none
  | .load t x => match a.ev x with
    | some u => aload P m t u
    | none => none
  | .slice t x none none none => match a.ev x with
    | some u => aslice P t u none none
    | none => none
  | .slice t x (some l) none none => match a.ev x, a.ev l with
    | some u, some v => aslice P t u (some v) none
    | _, _ => none
  | .slice t x none (some h) none => match a.ev x, a.ev h with
    | some u, some v => aslice P t u none (some v)
    | _, _ => none
  | .slice t x (some l) (some h) none => match a.ev x, a.ev l, a.ev h with
    | some u, some v, some z => aslice P t u (some v) (some z)
    | _, _, _ => none
  | .extract t i => match a.ev t with
    | some (.tuple vs) => vs[i]?
    | _ => none
  | .lookup t x k ok => match a.ev x, a.ev k with
    | some u, some v => alookup P m t u v ok
    | _, _ => none
  | .makeFunc (.func f) first caps => if first.size = 0 then (a.evs caps.toList).map fun vs => .func (.func f) #[] vs.toArray else none
  | .call c => match c.callee with
    | .builtin b => match a.evs c.args.toList with
      | some vs => abuiltin P m b c.argTypes vs
      | none => none
    | _ => none
  | _ => none

theorem array1 {α : Type} {a : Array α} (h : a.size = 0) : a = #[] := Array.eq_empty_of_size_eq_zero h
theorem abuiltin_run {G : Ctx} {B : Prot} {m : Mem} {w : World} (hR : R G B m w) {P : Program} {b : Builtin} {ts : Array TypeId} {args args' : List Value} {v : Value} (h : abuiltin P m b ts args = some v) (ha : VL G args args') (ty : TypeId) (cs : Array Bool) :
    ∃ v', (builtin b ts ty cs args'.toArray).run P w = .ok (.value v') w ∧ VRel G v v' := by
  unfold abuiltin at h
  split at h
  · unfold alen at h
    split at h
    · rename_i t x ht
      cases ha with
      | cons hx hnil =>
        cases hnil
        rename_i x'
        split at h
        · rename_i s hu; cases h; cases hx; exact ⟨_, by simp [builtin, Builtin.len_, ht, run_underlying hu]; rfl, .int _ _⟩
        · rename_i e a n c hu
          cases h
          cases hx <;> exact ⟨_, by simp [builtin, Builtin.len_, ht, run_underlying hu]; rfl, .int _ _⟩
        · rename_i n e hu; cases h; exact ⟨_, by simp [builtin, Builtin.len_, ht, run_underlying hu]; rfl, .int _ _⟩
        · rename_i k e hu; cases h; cases hx; exact ⟨_, by simp [builtin, Builtin.len_, ht, run_underlying hu]; rfl, .int _ _⟩
        · rename_i k e r hu
          split at h
          · rename_i es cl wr ho
            cases h
            cases hx with
            | map hf =>
              obtain ⟨_, _, es', h2, h3⟩ := hR.entries hf ho
              have hlen : es'.size = es.length := by
                have : ∀ {l l' : List MapEntry}, LRel G l l' → l'.length = l.length := fun hl => by
                  induction hl with
                  | nil => rfl
                  | cons _ _ ih => simp [ih]
                simpa using this h3
              exact ⟨_, by simp [builtin, Builtin.len_, ht, run_underlying hu, run_getObj_map h2, hlen]; rfl, .int _ _⟩
          · cases h
        · cases h
    · cases h
  · cases h
    cases ha with
    | cons hx ht =>
      cases ht with
      | cons hy hn => cases hn; cases hx; cases hy; exact ⟨_, by simp [builtin, run_min_int2], .int _ _⟩
  · cases h
    cases ha with
    | cons hx ht =>
      cases ht with
      | cons hy hn => cases hn; cases hx; cases hy; exact ⟨_, by simp [builtin, run_max_int2], .int _ _⟩
  · cases h
    cases ha with
    | cons hx ht => cases ht with
      | cons hy hn => cases hn with
        | cons hz hn => cases hn with
          | cons hu hn => cases hn; cases hx; cases hy; cases hz; cases hu; exact ⟨_, by simp [builtin, run_min4], .int _ _⟩
  · cases h
    cases ha with
    | cons hx ht => cases ht with
      | cons hy hn => cases hn with
        | cons hz hn => cases hn with
          | cons hu hn => cases hn; cases hx; cases hy; cases hz; cases hu; exact ⟨_, by simp [builtin, run_max4], .int _ _⟩
  · cases h

theorem aval_run {G : Ctx} {B : Prot} {m : Mem} {w : World} (hR : R G B m w) {P : Program} {a : AAct} {a' : Act} (hA : ARel G a a'.tmps) {o : Oper} {v : Value} (h : aval P m a o.op = some v) :
    ∃ v', (execOp a'.eval o).run P w = .ok (.value v') w ∧ VRel G v v' := by
  have wrap : ∀ (s : Sem Value), (∃ v', s.run P w = .ok v' w ∧ VRel G v v') → ∃ v', ((do pure (Next.value (← s))) : Sem Next).run P w = .ok (.value v') w ∧ VRel G v v' := fun s ⟨v', h1, h2⟩ => ⟨v', by simp [h1], h2⟩
  obtain ⟨dst, op, type, pos, after, guard⟩ := o
  dsimp only at h
  unfold aval at h
  split at h
  · exact ⟨_, rfl, hA.ev h⟩
  · exact ⟨_, rfl, hA.ev h⟩
  · rename_i c x y
    split at h
    · rename_i b u z hc hx hy
      cases h
      have e := hA.ev hc
      generalize hq : a'.eval c = cv at e
      cases e
      cases b
      · exact ⟨a'.eval y, by simp [execOp, hq, asBool], hA.ev hy⟩
      · exact ⟨a'.eval x, by simp [execOp, hq, asBool], hA.ev hx⟩
    · cases h
  · rename_i x
    split at h
    · rename_i ad hx
      cases h
      have e := hA.ev hx
      generalize hq : a'.eval x = xv at e
      cases e with
      | ptr hk => exact ⟨_, by simp only [execOp, hq]; rfl, .ptr hk⟩
    · rename_i f p q hx
      cases h
      have e := hA.ev hx
      generalize hq : a'.eval x = xv at e
      cases e with
      | func _ _ _ h1 h2 => exact ⟨_, by simp only [execOp, hq]; rfl, .func _ _ _ h1 h2⟩
    · rename_i f p q hx
      cases h
      have e := hA.ev hx
      generalize hq : a'.eval x = xv at e
      cases e with
      | yield hk => exact ⟨_, by simp only [execOp, hq]; rfl, .yield hk⟩
    · cases h
  · split at h
    · rename_i u z hx hy
      exact wrap _ (abin_run h (hA.ev hx) (hA.ev hy) _ _ w)
    · cases h
  · rename_i op t x
    split at h
    · rename_i u hx
      have e := hA.ev hx
      refine wrap _ ?_
      unfold aunV at h
      split at h
      · cases h
        generalize a'.eval x = xv at e
        cases e
        exact ⟨_, rfl, .bool _⟩
      · cases h
        generalize a'.eval x = xv at e
        cases e
        exact ⟨_, rfl, .int _ _⟩
      · generalize a'.eval x = xv at e
        cases e
        simp only [aintV] at h
        cases h
        exact ⟨_, rfl, .int _ _⟩
      · cases h
    · cases h
  · rename_i s d x
    split at h
    · rename_i u hx
      have e := hA.ev hx
      refine wrap _ ?_
      unfold aconv at h
      split at h
      · rename_i d1 k k1 n h1 h2
        cases h
        generalize a'.eval x = xv at e
        cases e
        exact ⟨_, by simp [convert, run_underlying h1, run_underlying h2, Conv.intToInt], .int _ _⟩
      · rename_i b h1 h2
        cases h
        generalize a'.eval x = xv at e
        cases e
        exact ⟨_, by simp [convert, run_underlying h1, run_underlying h2], .string _⟩
      · cases h
    · cases h
  · split at h
    · rename_i u hx; exact wrap _ (afieldAddr_run h (hA.ev hx) w)
    · cases h
  · split at h
    · rename_i u hx; exact wrap _ (afield_run h (hA.ev hx) w)
    · cases h
  · split at h
    · rename_i u z hx hy; exact wrap _ (aindexAddr_run h (hA.ev hx) (hA.ev hy) w)
    · cases h
  · split at h
    · rename_i u z hx hy; exact wrap _ (aindex_run h (hA.ev hx) (hA.ev hy) w)
    · cases h
  · split at h
    · rename_i u hx; exact wrap _ (aload_run hR h (hA.ev hx))
    · cases h
  · split at h
    · rename_i u hx
      exact wrap _ (aslice_run h (hA.ev hx) ⟨fun _ => rfl, (fun y hy => by cases hy)⟩ ⟨fun _ => rfl, (fun y hy => by cases hy)⟩ w)
    · cases h
  · split at h
    · rename_i u z hx hl
      exact wrap _ (aslice_run h (hA.ev hx) ⟨(fun e => by cases e), (fun y hy => by cases hy; exact ⟨_, rfl, hA.ev hl⟩)⟩ ⟨fun _ => rfl, (fun y hy => by cases hy)⟩ w)
    · cases h
  · split at h
    · rename_i u z hx hl
      exact wrap _ (aslice_run h (hA.ev hx) ⟨fun _ => rfl, (fun y hy => by cases hy)⟩ ⟨(fun e => by cases e), (fun y hy => by cases hy; exact ⟨_, rfl, hA.ev hl⟩)⟩ w)
    · cases h
  · split at h
    · rename_i u z z2 hx hl hl2
      exact wrap _ (aslice_run h (hA.ev hx) ⟨(fun e => by cases e), (fun y hy => by cases hy; exact ⟨_, rfl, hA.ev hl⟩)⟩ ⟨(fun e => by cases e), (fun y hy => by cases hy; exact ⟨_, rfl, hA.ev hl2⟩)⟩ w)
    · cases h
  · rename_i t i
    split at h
    · rename_i vs hx
      have e := hA.ev hx
      refine wrap _ ?_
      generalize a'.eval t = xv at e
      cases e with
      | tuple _ vs' hs hv =>
        have hlt : i < vs.size := by
          rcases Nat.lt_or_ge i vs.size with h' | h'
          · exact h'
          · rw [Array.getElem?_eq_none h'] at h; cases h
        have hlt' : i < vs'.size := by omega
        exact ⟨vs'[i], by simp [Instr.extract, Array.getElem?_eq_getElem hlt'], hv i v _ h (Array.getElem?_eq_getElem hlt')⟩
    · cases h
  · split at h
    · rename_i u z hx hy; exact wrap _ (alookup_run hR h (hA.ev hx) (hA.ev hy))
    · cases h
  · rename_i f first caps
    split at h
    · rename_i h0
      obtain ⟨vs, hvs, rfl⟩ := Option.map_eq_some_iff.1 h
      have e := hA.evs hvs
      obtain rfl := array1 h0
      refine ⟨.func (.func f) #[] (caps.map a'.eval), by simp [execOp, Instr.makeFunc], .func f _ _ ?_ fun i x y hx hy => e.get i x y (by simpa using hx) (by simpa using hy)⟩
      have := e.length
      simp at this ⊢; omega
    · cases h
  · rename_i c
    split at h
    · rename_i b hb
      split at h
      · rename_i vs hvs
        have e := hA.evs hvs
        obtain ⟨v', h1, h2⟩ := abuiltin_run hR h e type (c.args.map fun | .const _ => true | _ => false)
        refine ⟨v', ?_, h2⟩
        have hargs : (c.args.toList.map a'.eval).toArray = c.args.map a'.eval := by rw [← Array.toList_map]
        rw [hargs] at h1
        simp only [execOp, resolve, hb]
        exact h1
      · cases h
    · cases h
  · cases h
end Go.Eng

/- Composite literals. -/
namespace Go.Eng
open Go.RowKit

structure AR (G : Ctx) (c c' : Array Value) : Prop where
  size : c.size = c'.size
  get : ∀ (i : Nat) (x y : Value), c[i]? = some x → c'[i]? = some y → VRel G x y
theorem VRel.cells {G : Ctx} {v v' : Value} (h : VRel G v v') : AR G v.cells v'.cells := by
  have one : ∀ {v v' : Value}, VRel G v v' → AR G #[v] #[v'] := fun h => ⟨rfl, fun i x y hx hy => by
    match i with
    | 0 => simp at hx hy; subst hx; subst hy; exact h
    | i + 1 => simp at hx⟩
  cases h with
  | agg cs cs' hs h => exact ⟨hs, h⟩
  | bool b => exact one (.bool b)
  | int k n => exact one (.int k n)
  | string s => exact one (.string s)
  | nilPtr => exact one .nilPtr
  | ptr h => exact one (.ptr h)
  | nilSlice => exact one .nilSlice
  | slice h hn hc => exact one (.slice h hn hc)
  | slice0 a a' es => exact one (.slice0 a a' es)
  | nilMap => exact one .nilMap
  | map h => exact one (.map h)
  | func f cs cs' hs h => exact one (.func f cs cs' hs h)
  | yield h => exact one (.yield h)
  | nilFunc => exact one .nilFunc
  | nilIface => exact one .nilIface
  | tuple cs cs' hs h => exact one (.tuple cs cs' hs h)
  | tok k v' h q =>
    have e : v'.cells = #[v'] := by
      have := tokTy_one h
      cases v' <;> first | rfl | cases this
    rw [e]; exact one (.tok k v' h q)
  | expr c x v' f h q =>
    have e : v'.cells = #[v'] := by cases v' <;> first | rfl | cases h
    rw [e]; exact one (.expr c x v' f h q)
theorem AR.set {G : Ctx} {c c' : Array Value} (h : AR G c c') {v v' : Value} (hv : VRel G v v') (i : Nat) : AR G (c.setIfInBounds i v) (c'.setIfInBounds i v') := by
  refine ⟨by simp [h.size], fun j x y hx hy => ?_⟩
  by_cases hij : i = j
  · subst hij
    rcases Nat.lt_or_ge i c.size with hlt | hge
    · rw [Array.getElem?_setIfInBounds_self_of_lt hlt] at hx
      rw [Array.getElem?_setIfInBounds_self_of_lt (by have := h.size; omega)] at hy
      cases hx; cases hy; exact hv
    · rw [Array.getElem?_eq_none (by simpa using hge)] at hx; cases hx
  · rw [Array.getElem?_setIfInBounds_ne hij] at hx hy
    exact h.get j x y hx hy
theorem AR.blit {G : Ctx} {v v' : List Value} (hl : v'.length = v.length) (hv : ∀ (i : Nat) (x y : Value), v[i]? = some x → v'[i]? = some y → VRel G x y) (off : Nat) : ∀ (k : Nat) {c c' : Array Value}, AR G c c' →
    AR G ((v.zipIdx k).foldl (fun cs (p : Value × Nat) => cs.setIfInBounds (off + p.2) p.1) c) ((v'.zipIdx k).foldl (fun cs (p : Value × Nat) => cs.setIfInBounds (off + p.2) p.1) c') := by
  induction v generalizing v' with
  | nil =>
    intro k c c' h
    obtain rfl : v' = [] := List.eq_nil_of_length_eq_zero (by simpa using hl)
    exact h
  | cons x v ih =>
    intro k c c' h
    cases v' with
    | nil => simp at hl
    | cons y v' =>
      simp only [List.zipIdx_cons, List.foldl_cons]
      exact ih (by simpa using hl) (fun i a b ha hb => hv (i + 1) a b (by simpa using ha) (by simpa using hb)) (k + 1) (h.set (hv 0 x y rfl rfl) _)
inductive PL (G : Ctx) : List (Nat × Value) → List (Nat × Value) → Prop
  | nil : PL G [] []
  | cons {i : Nat} {v v' : Value} {l l' : List (Nat × Value)} (h : VRel G v v') (t : PL G l l') : PL G ((i, v) :: l) ((i, v') :: l')
theorem fill_rel {G : Ctx} {place : Nat → Option (Nat × Nat)} : ∀ {l l' : List (Nat × Value)}, PL G l l' → ∀ {c c' out : Array Value}, AR G c c' → Instr.fill place c l = some out → ∃ out', Instr.fill place c' l' = some out' ∧ AR G out out' := by
  intro l l' h
  induction h with
  | nil => intro c c' out hc h; simp only [Instr.fill, Option.some.injEq] at h; subst h; exact ⟨c', rfl, hc⟩
  | cons hv ht ih =>
    rename_i i v v' l l'
    intro c c' out hc h
    simp only [Instr.fill] at h ⊢
    cases hp : place i with
    | none => rw [hp] at h; cases h
    | some p =>
      obtain ⟨off, size⟩ := p
      rw [hp] at h
      simp only at h ⊢
      have hcells := hv.cells
      rw [← hcells.size, ← hc.size]
      split at h
      · cases h
      · rename_i hcond
        rw [if_neg hcond]
        refine ih ?_ h
        rw [← Array.foldl_toList, ← Array.foldl_toList]
        simp only [Array.toList_zipIdx]
        exact AR.blit (by have := hcells.size; simp; omega) (fun i x y hx hy => hcells.get i x y (by simpa using hx) (by simpa using hy)) off 0 hc

theorem run_mapM {α β : Type} {P : Program} {w : World} {f : α → Sem β} {g : α → β} (xs : Array α) (h : ∀ a ∈ xs.toList, (f a).run P w = .ok (g a) w) : (xs.mapM f).run P w = .ok (xs.map g) w := by
  have hl : ∀ l : List α, (∀ a ∈ l, (f a).run P w = .ok (g a) w) → (l.mapM f).run P w = .ok (l.map g) w := fun l => by
    induction l with
    | nil => intro _; simp
    | cons x l ih =>
      intro h
      simp [List.mapM_cons, h x (by simp), ih (fun a ha => h a (by simp [ha]))]
  have h2 : (Array.toList <$> xs.mapM f).run P w = .ok (xs.toList.map g) w := by
    rw [Array.toList_mapM]; exact hl _ h
  rw [Sem.run_map] at h2
  cases hr : (xs.mapM f).run P w with
  | ok a w' =>
    rw [hr] at h2
    simp only [Result.andThen_ok, Result.ok.injEq] at h2
    obtain ⟨h3, rfl⟩ := h2
    congr 1
    apply Array.ext'
    simpa using h3
  | halt x w' => rw [hr] at h2; simp at h2

def psize (P : Program) (t : TypeId) : Nat := match P.info? t with | some i => i.size | none => 0
theorem run_sizeOf {P : Program} {w : World} {t : TypeId} (h : (P.info? t).isSome = true) : (sizeOf t).run P w = .ok (psize P t) w := by
  cases hi : P.info? t with
  | none => simp [hi] at h
  | some i => simp [sizeOf, typeInfo, hi, psize]
def AAct.parts (a : AAct) : List (Nat × Operand) → Option (List (Nat × Value))
  | [] => some []
  | (i, x) :: l => match a.ev x, a.parts l with
    | some v, some vs => some ((i, v) :: vs)
    | _, _ => none
theorem ARel.parts {G : Ctx} {a : AAct} {a' : Act} (h : ARel G a a'.tmps) : ∀ {l : List (Nat × Operand)} {vs : List (Nat × Value)}, a.parts l = some vs → PL G vs (l.map fun (i, x) => (i, a'.eval x))
  | [], vs, hv => by simp only [AAct.parts, Option.some.injEq] at hv; subst hv; exact .nil
  | (i, x) :: l, vs, hv => by
    simp only [AAct.parts] at hv
    split at hv
    · rename_i v us h1 h2
      cases hv
      exact .cons (h.ev h1) (h.parts h2)
    · cases hv
def azero (P : Program) (t : TypeId) : Option Value :=
  match P.info? t with
  | some i => match i.zero with
    | some z => if zeroOk z then some z else none
    | none => none
  | none => none
theorem azero_run {P : Program} {t : TypeId} {z : Value} (h : azero P t = some z) (w : World) (G : Ctx) : (zeroValue t).run P w = .ok z w ∧ VRel G z z := by
  unfold azero at h
  split at h
  · rename_i i hi
    split at h
    · rename_i z' hz
      split at h
      · rename_i hok
        cases h
        exact ⟨by simp [zeroValue, typeInfo, hi, hz], plainZ_rel G hok⟩
      · cases h
    · cases h
  · cases h
def abuild (P : Program) (t : TypeId) (parts : List (Nat × Value)) : Option Value :=
  match azero P t, P.underlying t with
  | some z, some (.struct fs) =>
    if fs.toList.all fun f => (P.info? f.type).isSome then
      (Instr.fill ((fs.map fun f => (f.offset, psize P f.type))[·]?) z.cells parts).map .agg
    else none
  | some z, some (.array _ e) => if (P.info? e).isSome then (Instr.fill (fun i => some (i * psize P e, psize P e)) z.cells parts).map .agg else none
  | _, _ => none
theorem abuild_run {G : Ctx} {P : Program} {t : TypeId} {parts parts' : List (Nat × Value)} {v : Value} (h : abuild P t parts = some v) (hp : PL G parts parts') (w : World) :
    ∃ v', (Instr.build t parts'.toArray).run P w = .ok v' w ∧ VRel G v v' := by
  unfold abuild at h
  split at h
  · rename_i z fs hz hu
    obtain ⟨h1, h2⟩ := azero_run hz w G
    split at h
    · rename_i hall
      obtain ⟨out, ho, rfl⟩ := Option.map_eq_some_iff.1 h
      obtain ⟨out', ho', hr⟩ := fill_rel hp h2.cells ho
      have hm : (fs.mapM (fun f : Field => (do pure (f.offset, ← sizeOf f.type) : Sem (Nat × Nat)))).run P w = .ok (fs.map fun f : Field => (f.offset, psize P f.type)) w :=
        run_mapM fs fun f hf => by
          have := List.all_eq_true.1 hall f hf
          simp [run_sizeOf this]
      refine ⟨.agg out', ?_, .agg _ _ hr.size hr.get⟩
      simp only [Instr.build, Sem.run_bind, h1, Result.andThen_ok, run_underlying hu, hm]
      rw [ho']
      rfl
    · cases h
  · rename_i z n e hz hu
    obtain ⟨h1, h2⟩ := azero_run hz w G
    split at h
    · rename_i hi
      obtain ⟨out, ho, rfl⟩ := Option.map_eq_some_iff.1 h
      obtain ⟨out', ho', hr⟩ := fill_rel hp h2.cells ho
      refine ⟨.agg out', ?_, .agg _ _ hr.size hr.get⟩
      simp only [Instr.build, Sem.run_bind, h1, Result.andThen_ok, run_underlying hu, run_sizeOf hi]
      rw [ho']
      rfl
    · cases h
  · cases h

/-- Light operations, composite values and a step's entry too. -/
def aentry (m : Mem) (x : Value) : Option Value :=
  match x with
  | .pointer (some ⟨r, 0, none⟩) =>
    match m.h.get r with
    | some (.iter (some mp) _ seen stepped) =>
      match seen.getLast?, m.h.get mp with
      | some stamp, some (.map es clock _) =>
        if clock = stepped then match es.find? (·.born == stamp) with
          | some e => some (.tuple #[e.key, e.val])
          | none => none
        else none
      | _, _ => none
    | _ => none
  | _ => none
theorem LRel.find {G : Ctx} {l l' : List MapEntry} (h : LRel G l l') (n : Nat) {e : MapEntry} (he : l.find? (·.born == n) = some e) : ∃ e', l'.find? (·.born == n) = some e' ∧ ERel G e e' := by
  induction h with
  | nil => simp at he
  | cons hr ht ih =>
    simp only [List.find?_cons] at he ⊢
    rw [hr.2.2]
    split at he
    · rename_i hb; cases he; exact ⟨_, rfl, hr⟩
    · exact ih he
theorem aentry_run {G : Ctx} {B : Prot} {m : Mem} {w : World} (hR : R G B m w) {P : Program} {x x' v : Value} (h : aentry m x = some v) (hx : VRel G x x') :
    ∃ v', (Instr.entry x').run P w = .ok v' w ∧ VRel G v v' := by
  unfold aentry at h
  split at h
  · rename_i r
    split at h
    · rename_i mp since seen stepped hr
      split at h
      · rename_i stamp es clock wr hs hm
        split at h
        · rename_i hc
          split at h
          · rename_i e he
            cases h
            cases hx with
            | ptr hk =>
              rename_i b d
              obtain ⟨o, ho, ro⟩ := hR.obj _ _ _ hk
              rw [hr] at ho; cases ho
              obtain ⟨rfl, _, mp', h2, h3⟩ := ro
              cases h3 with
              | map hmf =>
                rename_i bm
                obtain ⟨_, _, es', h4, h5⟩ := hR.entries hmf hm
                obtain ⟨e', h6, h7⟩ := h5.find stamp he
                have hback : seen.toArray.back? = some stamp := by simpa using hs
                have hfind : es'.find? (·.born == stamp) = some e' := by rw [← Array.find?_toList]; exact h6
                have hg : (getObj b).run P w = .ok (.mapIter (some bm) since seen.toArray stepped) w := by simp [getObj, Sem.run, h2]
                subst hc
                exact ⟨_, by simp [Instr.entry, hg, hback, run_getObj_map h4, hfind], h7.1.pair h7.2.1⟩
          · cases h
        · cases h
      · cases h
    · cases h
  · cases h
/-! ### Operations on what is not known -/
/-- Which way tests over tokens go. -/
class Sym where
  pc : List (Value × Bool)
def PCok [Sym] (G : Ctx) : Prop := ∀ p ∈ Sym.pc, ∃ f, symEv G.sym f p.1 = some (.bool p.2)
theorem PCok.mono [Sym] {G G' : Ctx} (e : Ext G G') (h : PCok G) : PCok G' := fun p hp => by rw [e.sym]; exact h p hp
def isSym : Value → Bool
  | .chan (some _) | .iface _ _ => true
  | _ => false
def ctyp (c : Nat) : Nat := if (1 ≤ c ∧ c ≤ 7) ∨ (101 ≤ c ∧ c ≤ 103) then 2 else if (11 ≤ c ∧ c ≤ 16) ∨ c = 100 then 0 else 7
def sty : Value → Nat
  | .chan (some k) => k % 8
  | .iface c _ => ctyp c
  | .int .i64 _ => 2
  | .string _ => 1
  | .bool _ => 0
  | .slice _ _ _ => 4
  | _ => 7
def scal : Value → Bool
  | .int _ _ | .bool _ | .string _ => true
  | _ => false
theorem scal_rel {v : Value} (G : Ctx) (h : scal v = true) : VRel G v v := by
  cases v <;> first | exact .bool _ | exact .int _ _ | exact .string _ | cases h
theorem scal_eq {G : Ctx} {v v' : Value} (h : scal v = true) (r : VRel G v v') : v' = v := by
  cases r <;> first | rfl | cases h
theorem aintV_code {op : BinOp} (h : opCode op ≠ 0) (k : IntKind) (x y : Int) : ∃ r, aintV op k x y = some r ∧ scal r = true ∧ (if cmpOp op then ∃ b, r = .bool b else ∃ n, r = .int k n) := by
  cases op <;> first | exact absurd rfl h | exact ⟨_, rfl, rfl, ⟨_, rfl⟩⟩
theorem astrV_code {op : BinOp} (h : cmpOp op = true) (x y : ByteArray) : ∃ b, astrV op x y = some (.bool b) := by
  cases op <;> first | exact ⟨_, rfl⟩ | cases h
theorem codeOp_code {op : BinOp} (h : opCode op ≠ 0) : codeOp (opCode op) = some op := by
  cases op <;> first | exact absurd rfl h | rfl
theorem symBin_typ {op : BinOp} {a b r : Value} (h : symBin op a b = some r) (hc : opCode op ≠ 0) : if cmpOp op then ∃ b, r = .bool b else ∃ n, r = .int .i64 n := by
  unfold symBin at h
  split at h
  · rename_i x y
    obtain ⟨r', h1, _, h2⟩ := aintV_code hc .i64 x y
    rw [h1] at h; cases h; exact h2
  · split at h
    · rename_i hcmp
      rename_i x y
      obtain ⟨b, hb⟩ := astrV_code hcmp x y
      rw [hb] at h; cases h; rw [if_pos hcmp]; exact ⟨_, rfl⟩
    · cases h
  · cases op <;> first | (simp only [Option.some.injEq] at h; subst h; exact ⟨_, rfl⟩) | cases h
  · cases h
theorem symUn_typ {c : Nat} {a r : Value} (h : symUn c a = some r) : (ctyp c = 2 → ∃ n, r = .int .i64 n) ∧ (ctyp c = 0 → ∃ b, r = .bool b) := by
  unfold symUn at h
  split at h <;> first | (cases h; done) | (simp only [Option.some.injEq] at h; subst h; exact ⟨fun h => (by first | exact ⟨_, rfl⟩ | exact absurd h (by decide)), fun h => (by first | exact ⟨_, rfl⟩ | exact absurd h (by decide))⟩)
theorem codeOp_typ {c : Nat} {op : BinOp} (h : codeOp c = some op) : opCode op ≠ 0 ∧ (ctyp c = 2 → cmpOp op = false) ∧ (ctyp c = 0 → cmpOp op = true) := by
  unfold codeOp at h
  split at h <;> first | (cases h; done) | (simp only [Option.some.injEq] at h; subst h; exact ⟨by decide, by decide, by decide⟩)
theorem sty_rel {G : Ctx} {v v' : Value} (h : VRel G v v') : (sty v = 2 → ∃ n, v' = .int .i64 n) ∧ (sty v = 1 → ∃ s, v' = .string s) ∧ (sty v = 0 → ∃ b, v' = .bool b) ∧ (sty v = 4 → ∃ a n c, v' = .slice a n c) := by
  cases h with
  | int k n => cases k <;> refine ⟨fun h => ?_, fun h => ?_, fun h => ?_, fun h => ?_⟩ <;> first | exact ⟨_, rfl⟩ | cases h
  | bool b => exact ⟨fun h => (by cases h), fun h => (by cases h), fun h => ⟨_, rfl⟩, fun h => (by cases h)⟩
  | string b => exact ⟨fun h => (by cases h), fun h => ⟨_, rfl⟩, fun h => (by cases h), fun h => (by cases h)⟩
  | nilSlice => exact ⟨fun h => (by cases h), fun h => (by cases h), fun h => (by cases h), fun h => ⟨_, _, _, rfl⟩⟩
  | slice _ _ _ => exact ⟨fun h => (by cases h), fun h => (by cases h), fun h => (by cases h), fun h => ⟨_, _, _, rfl⟩⟩
  | slice0 _ _ _ => exact ⟨fun h => (by cases h), fun h => (by cases h), fun h => (by cases h), fun h => ⟨_, _, _, rfl⟩⟩
  | tok k v' h e =>
    show (k % 8 = 2 → _) ∧ (k % 8 = 1 → _) ∧ (k % 8 = 0 → _) ∧ (k % 8 = 4 → _)
    refine ⟨fun q => ?_, fun q => ?_, fun q => ?_, fun q => ?_⟩ <;> unfold tokTy at h <;> rw [q] at h
    · cases v' with
      | int kk n => cases kk <;> first | exact ⟨_, rfl⟩ | cases h
      | _ => cases h
    · cases v' <;> first | exact ⟨_, rfl⟩ | cases h
    · cases v' <;> first | exact ⟨_, rfl⟩ | cases h
    · cases v' <;> first | exact ⟨_, _, _, rfl⟩ | cases h
  | expr c x v' f h e =>
    show (ctyp c = 2 → _) ∧ (ctyp c = 1 → _) ∧ (ctyp c = 0 → _) ∧ (ctyp c = 4 → _)
    have h14 : ctyp c ≠ 1 ∧ ctyp c ≠ 4 := by unfold ctyp; split <;> (try split) <;> exact ⟨by decide, by decide⟩
    have key : (ctyp c = 2 → ∃ n, v' = .int .i64 n) ∧ (ctyp c = 0 → ∃ b, v' = .bool b) := by
      cases f with
      | zero => simp [symEv] at e
      | succ f =>
        cases x <;> (try (simp [symEv] at e; done))
        rename_i xs
        simp only [symEv] at e
        split at e
        · split at e
          · exact symUn_typ e
          · cases e
        · split at e
          · split at e
            · rename_i op hop
              obtain ⟨h1, h2, h3⟩ := codeOp_typ hop
              have := symBin_typ e h1
              refine ⟨fun q => ?_, fun q => ?_⟩
              · rw [h2 q] at this; exact this
              · rw [h3 q] at this; exact this
            · cases e
          · cases e
        · cases e
    exact ⟨key.1, fun q => absurd q h14.1, key.2, fun q => absurd q h14.2⟩
  | _ => exact ⟨fun h => (by cases h), fun h => (by cases h), fun h => (by cases h), fun h => (by cases h)⟩
theorem symEv_of {G : Ctx} {u u' : Value} (h : VRel G u u') (hs : isSym u = true ∨ scal u = true) : ∃ f, symEv G.sym f u = some u' := by
  cases h with
  | int k n => exact ⟨1, rfl⟩
  | bool b => exact ⟨1, rfl⟩
  | string b => exact ⟨1, rfl⟩
  | tok k v' h e => exact ⟨1, by simp only [symEv]; rw [e, if_pos h]⟩
  | expr c x v' f h e => exact ⟨f, e⟩
  | _ => rcases hs with hs | hs <;> cases hs
variable [Sym]
def rsv (e : Value) : Value := match Sym.pc.find? (fun p => veq 40 p.1 e) with | some p => .bool p.2 | none => e
theorem rsv_rel {G : Ctx} (hp : PCok G) {c : Nat} {x r : Value} (h : VRel G (.iface c x) r) : VRel G (rsv (.iface c x)) r := by
  unfold rsv
  split
  · rename_i p hf
    have h1 := List.find?_some hf
    have h2 := veq_eq 40 _ _ h1
    obtain ⟨f, hf2⟩ := hp p (List.mem_of_find?_eq_some hf)
    rw [h2] at hf2
    obtain ⟨g, hg⟩ := symEv_of h (.inl rfl)
    rw [symEv_det hg hf2]; exact .bool _
  · exact h
def isB1 : Option TypeDesc → Bool
  | some .bool => true
  | _ => false
def isS1 : Option TypeDesc → Bool
  | some .string => true
  | _ => false
def isL1 : Option TypeDesc → Bool
  | some (.slice _) => true
  | _ => false
def isI1 : Option TypeDesc → Bool
  | some (.int .i64) => true
  | _ => false
def isEq : BinOp → Bool
  | .eql | .neq => true
  | _ => false
def symOr (v : Value) : Bool := isSym v || scal v
def asymBin (P : Program) (op : BinOp) (t : TypeId) (u v : Value) : Option Value :=
  if (isSym u || isSym v) && symOr u && symOr v && opCode op != 0 && ((sty u == 2 && sty v == 2) || (sty u == 1 && sty v == 1 && cmpOp op) || (sty u == 0 && sty v == 0 && isEq op && isB1 (P.underlying t))) then
    some (rsv (.iface (opCode op) (.agg #[u, v]))) else none
def asym1 (c : Nat) (u : Value) (ty : Nat) : Option Value := if isSym u && sty u == ty then some (rsv (.iface c (.agg #[u]))) else none
def asym (P : Program) (a : AAct) : Go.Op → Option Value
  | .binOp op t x y _ => match a.ev x, a.ev y with
    | some u, some v => asymBin P op t u v
    | _, _ => none
  | .unOp .not _ x => match a.ev x with
    | some u => asym1 100 u 0
    | none => none
  | .unOp .neg _ x => match a.ev x with
    | some u => asym1 102 u 2
    | none => none
  | .convert s d x => match a.ev x with
    | some u => if (P.underlying s).isSome then (if isI1 (P.underlying d) then asym1 103 u 2 else if isS1 (P.underlying s) && isS1 (P.underlying d) && isSym u && sty u == 1 then some u else none) else none
    | none => none
  | .call c => match c.callee, c.args.toList, c.argTypes[0]? with
    | .builtin .len, [x], some t => match a.ev x with
      | some u => if isS1 (P.underlying t) then asym1 101 u 1 else if isL1 (P.underlying t) then asym1 101 u 4 else none
      | none => none
    | _, _, _ => none
  | _ => none
/-- The frame with what is really there in a slot. -/
def AAct.conc (a : AAct) (a' : Act) : Operand → AAct
  | .tmp t => a.put (some t) (a'.eval (.tmp t))
  | _ => a
theorem conc_rel {G : Ctx} {a : AAct} {a' : Act} (hA : ARel G a a'.tmps) {x : Operand} (hs : scal (a'.eval x) = true) : ARel G (a.conc a' x) a'.tmps := by
  cases x with
  | tmp t =>
    refine ⟨by rw [hA.size]; rfl, fun i => ?_⟩
    show VRel G ((a.put (some t) (a'.eval (.tmp t))).look i) _
    rw [AAct.look_put]
    split
    · rename_i hi; subst hi; exact scal_rel G hs
    · exact hA.rel i
  | _ => exact hA
theorem conc_ev {a : AAct} {a' : Act} {x : Operand} {u : Value} (hx : a.ev x = some u) (hs : scal (a'.eval x) = true) : (a.conc a' x).ev x = some (a'.eval x) := by
  cases x with
  | tmp t =>
    show some ((a.put (some t) (a'.eval (.tmp t))).look t) = _
    rw [AAct.look_put, if_pos rfl]
  | const v =>
    simp only [AAct.conc]
    simp only [AAct.ev] at hx ⊢
    split at hx
    · rename_i hp; rw [if_pos hp]; rfl
    · cases hx
  | func f => cases hs
  | global g => cases hx
theorem conc_keep {a : AAct} {a' : Act} {x y : Operand} (hy : a.ev y = some (a'.eval y)) : (a.conc a' x).ev y = some (a'.eval y) := by
  cases x with
  | tmp t =>
    cases y with
    | tmp s =>
      show some ((a.put (some t) (a'.eval (.tmp t))).look s) = _
      rw [AAct.look_put]
      split
      · rename_i h; subst h; rfl
      · exact hy
    | _ => exact hy
  | _ => exact hy
theorem expr1_rel {G : Ctx} (hp : PCok G) {c ty : Nat} {u u' v r : Value} (h : asym1 c u ty = some v) (hu : VRel G u u') (hr : symUn c u' = some r) (h1 : r.oneCell' = true) : VRel G v r := by
  unfold asym1 at h
  split at h
  · rename_i hc
    simp only [Bool.and_eq_true, beq_iff_eq] at hc
    cases h
    obtain ⟨f, hf⟩ := symEv_of hu (.inl hc.1)
    refine rsv_rel hp (.expr c _ r (f + 1) h1 ?_)
    simp only [symEv, hf]; exact hr
  · cases h
theorem asym1_ty {c ty : Nat} {u v : Value} (h : asym1 c u ty = some v) : isSym u = true ∧ sty u = ty := by
  unfold asym1 at h
  split at h
  · rename_i hc; simpa using hc
  · cases h
theorem ints_abin {P : Program} {op : BinOp} {t : TypeId} (h : opCode op ≠ 0) (x y : Int) : abin P op t (.int .i64 x) (.int .i64 y) = aintV op .i64 x y := by
  cases op <;> first | rfl | exact absurd rfl h
theorem asym_run {G : Ctx} {B : Prot} {m : Mem} {w : World} (hp : PCok G) (hR : R G B m w) {P : Program} {a : AAct} {a' : Act} (hA : ARel G a a'.tmps) {o : Oper} {v : Value} (h : asym P a o.op = some v) :
    ∃ v', (execOp a'.eval o).run P w = .ok (.value v') w ∧ VRel G v v' := by
  obtain ⟨dst, op, type, pos, after, guard⟩ := o
  dsimp only at h
  unfold asym at h
  split at h
  · rename_i op t x y yt
    split at h
    · rename_i u z hx hy
      have ex := hA.ev hx
      have ey := hA.ev hy
      unfold asymBin at h
      split at h
      · rename_i hc
        simp only [Bool.and_eq_true, Bool.or_eq_true, beq_iff_eq, bne_iff_ne, ne_eq] at hc
        obtain ⟨⟨⟨⟨hsym, hu⟩, hz⟩, hcode⟩, hty⟩ := hc
        cases h
        have hu' : isSym u = true ∨ scal u = true := by simpa [symOr] using hu
        have hz' : isSym z = true ∨ scal z = true := by simpa [symOr] using hz
        obtain ⟨fu, hfu⟩ := symEv_of ex hu'
        obtain ⟨fz, hfz⟩ := symEv_of ey hz'
        obtain ⟨s1, s2, s3, _⟩ := sty_rel ex
        obtain ⟨t1, t2, t3, _⟩ := sty_rel ey
        have key : ∃ r, symBin op (a'.eval x) (a'.eval y) = some r ∧ abin P op t (a'.eval x) (a'.eval y) = some r ∧ scal r = true ∧ scal (a'.eval x) = true ∧ scal (a'.eval y) = true := by
          rcases hty with (⟨q1, q2⟩ | ⟨⟨q1, q2⟩, q3⟩) | ⟨⟨⟨q1, q2⟩, q3⟩, q4⟩
          · obtain ⟨n, hn⟩ := s1 q1
            obtain ⟨n2, hn2⟩ := t1 q2
            obtain ⟨r, h1, h2, _⟩ := aintV_code hcode .i64 n n2
            rw [hn, hn2]
            exact ⟨r, h1, by rw [ints_abin hcode]; exact h1, h2, rfl, rfl⟩
          · obtain ⟨n, hn⟩ := s2 q1
            obtain ⟨n2, hn2⟩ := t2 q2
            obtain ⟨b, hb⟩ := astrV_code q3 n n2
            rw [hn, hn2]
            exact ⟨.bool b, by simp only [symBin]; rw [if_pos q3]; exact hb, hb, rfl, rfl, rfl⟩
          · obtain ⟨n, hn⟩ := s3 q1
            obtain ⟨n2, hn2⟩ := t3 q2
            have hub : P.underlying t = some .bool := by
              unfold isB1 at q4; split at q4
              · assumption
              · cases q4
            rw [hn, hn2]
            cases op <;> first | exact absurd q3 (by decide) | exact ⟨_, rfl, by simp [abin, hub], rfl, rfl, rfl⟩
        obtain ⟨r, k1, k2, k3, k4, k5⟩ := key
        have hA2 : ARel G ((a.conc a' x).conc a' y) a'.tmps := conc_rel (conc_rel hA k4) k5
        have hx2 : ((a.conc a' x).conc a' y).ev x = some (a'.eval x) := conc_keep (conc_ev hx k4)
        have hy0 : ∃ u2, (a.conc a' x).ev y = some u2 := by
          cases x with
          | tmp t =>
            cases y with
            | tmp s => exact ⟨_, rfl⟩
            | _ => exact ⟨_, hy⟩
          | _ => exact ⟨_, hy⟩
        obtain ⟨u2, hu2⟩ := hy0
        have hy2 : ((a.conc a' x).conc a' y).ev y = some (a'.eval y) := conc_ev hu2 k5
        obtain ⟨v', h1, h2⟩ := aval_run (P := P) hR hA2 (o := ⟨dst, .binOp op t x y yt, type, pos, after, guard⟩) (v := r) (by simp only [aval, hx2, hy2]; exact k2)
        have hv' := scal_eq k3 h2
        subst hv'
        refine ⟨v', h1, rsv_rel hp (.expr _ _ v' (fu + fz + 1) (by cases v' <;> first | rfl | cases k3) ?_)⟩
        simp only [symEv]
        rw [symEv_mono fu _ _ hfu (fu + fz) (by omega), symEv_mono fz _ _ hfz (fu + fz) (by omega), codeOp_code hcode]
        exact k1
      · cases h
    · cases h
  · rename_i t x
    split at h
    · rename_i u hx
      have ex := hA.ev hx
      obtain ⟨b, hb⟩ := (sty_rel ex).2.2.1 (asym1_ty h).2
      have k4 : scal (a'.eval x) = true := by rw [hb]; rfl
      obtain ⟨v', h1, h2⟩ := aval_run (P := P) hR (conc_rel hA k4) (o := ⟨dst, .unOp .not t x, type, pos, after, guard⟩) (v := .bool !b) (by simp only [aval, conc_ev hx k4, hb]; rfl)
      have hv' := scal_eq rfl h2
      subst hv'
      exact ⟨_, h1, expr1_rel hp h ex (by rw [hb]; rfl) rfl⟩
    · cases h
  · rename_i t x
    split at h
    · rename_i u hx
      have ex := hA.ev hx
      obtain ⟨n, hb⟩ := (sty_rel ex).1 (asym1_ty h).2
      have k4 : scal (a'.eval x) = true := by rw [hb]; rfl
      obtain ⟨v', h1, h2⟩ := aval_run (P := P) hR (conc_rel hA k4) (o := ⟨dst, .unOp .neg t x, type, pos, after, guard⟩) (v := .int .i64 (IntKind.i64.wrap (0 - n))) (by simp only [aval, conc_ev hx k4, hb]; rfl)
      have hv' := scal_eq rfl h2
      subst hv'
      exact ⟨_, h1, expr1_rel hp h ex (by rw [hb]; rfl) rfl⟩
    · cases h
  · rename_i s d x
    split at h
    · rename_i u hx
      have ex := hA.ev hx
      split at h
      · rename_i hus
        obtain ⟨ds, hds⟩ := Option.isSome_iff_exists.1 hus
        split at h
        · rename_i hi
          have hud : P.underlying d = some (.int .i64) := by
            unfold isI1 at hi; split at hi
            · assumption
            · cases hi
          obtain ⟨n, hb⟩ := (sty_rel ex).1 (asym1_ty h).2
          have k4 : scal (a'.eval x) = true := by rw [hb]; rfl
          obtain ⟨v', h1, h2⟩ := aval_run (P := P) hR (conc_rel hA k4) (o := ⟨dst, .convert s d x, type, pos, after, guard⟩) (v := .int .i64 (IntKind.i64.wrap n)) (by simp only [aval, conc_ev hx k4, hb, aconv, hds, hud])
          have hv' := scal_eq rfl h2
          subst hv'
          exact ⟨_, h1, expr1_rel hp h ex (by rw [hb]; rfl) rfl⟩
        · split at h
          · rename_i hss
            simp only [Bool.and_eq_true, beq_iff_eq] at hss
            obtain ⟨⟨⟨q1, q2⟩, q3⟩, q4⟩ := hss
            cases h
            have hu1 : P.underlying s = some .string := by
              unfold isS1 at q1; split at q1
              · assumption
              · cases q1
            have hu2 : P.underlying d = some .string := by
              unfold isS1 at q2; split at q2
              · assumption
              · cases q2
            obtain ⟨n, hb⟩ := (sty_rel ex).2.1 q4
            have k4 : scal (a'.eval x) = true := by rw [hb]; rfl
            obtain ⟨v', h1, h2⟩ := aval_run (P := P) hR (conc_rel hA k4) (o := ⟨dst, .convert s d x, type, pos, after, guard⟩) (v := .string n) (by simp only [aval, conc_ev hx k4, hb, aconv, hu1, hu2])
            have hv' := scal_eq rfl h2
            subst hv'
            exact ⟨_, h1, by rw [← hb]; exact ex⟩
          · cases h
      · cases h
    · cases h
  · rename_i c
    split at h
    · rename_i x t hcal hargs ht
      split at h
      · rename_i u hx
        have ex := hA.ev hx
        have hargs' : c.args = #[x] := by rw [← Array.toArray_toList (xs := c.args), hargs]
        split at h
        · rename_i hs
          have hu : P.underlying t = some .string := by
            unfold isS1 at hs; split at hs
            · assumption
            · cases hs
          obtain ⟨s, hb⟩ := (sty_rel ex).2.1 (asym1_ty h).2
          have k4 : scal (a'.eval x) = true := by rw [hb]; rfl
          obtain ⟨v', h1, h2⟩ := aval_run (P := P) hR (conc_rel hA k4) (o := ⟨dst, .call c, type, pos, after, guard⟩) (v := goInt s.size) (by simp only [aval, hcal, hargs, AAct.evs, conc_ev hx k4, hb, abuiltin, alen, ht, hu])
          have hv' := scal_eq rfl h2
          subst hv'
          exact ⟨_, h1, expr1_rel hp h ex (by rw [hb]; rfl) rfl⟩
        · split at h
          · rename_i hs
            obtain ⟨e, hu⟩ : ∃ e, P.underlying t = some (.slice e) := by
              unfold isL1 at hs; split at hs
              · exact ⟨_, by assumption⟩
              · cases hs
            obtain ⟨ad, n, cp, hb⟩ := (sty_rel ex).2.2.2 (asym1_ty h).2
            refine ⟨goInt n, ?_, expr1_rel hp h ex (by rw [hb]; rfl) rfl⟩
            simp only [execOp, resolve, hcal, hargs']
            have hlen : (builtin .len c.argTypes type (#[x].map fun | .const _ => true | _ => false) #[a'.eval x]).run P w = .ok (.value (goInt n)) w := by
              rw [hb]
              simp [builtin, Builtin.len_, ht, run_underlying hu]
            simp only [Sem.run_bind, Sem.run_pure, Result.andThen_ok, invoke]
            have e1 : Array.map a'.eval #[x] = #[a'.eval x] := by simp
            rw [e1]; exact hlen
          · cases h
      · cases h
    · cases h
  · cases h
def alight (P : Program) (m : Mem) (a : AAct) (op : Go.Op) : Option Value :=
  match op with
  | .build t parts => match a.parts parts.toList with
    | some ps => abuild P t ps
    | none => none
  | .entry x => match a.ev x with
    | some u => aentry m u
    | none => none
  | op => match aval P m a op with
    | some v => some v
    | none => asym P a op
theorem alight_run {G : Ctx} {B : Prot} {m : Mem} {w : World} (hp : PCok G) (hR : R G B m w) {P : Program} {a : AAct} {a' : Act} (hA : ARel G a a'.tmps) {o : Oper} {v : Value} (h : alight P m a o.op = some v) :
    ∃ v', (execOp a'.eval o).run P w = .ok (.value v') w ∧ VRel G v v' := by
  obtain ⟨dst, op, type, pos, after, guard⟩ := o
  dsimp only at h
  unfold alight at h
  split at h
  · rename_i t parts
    split at h
    · rename_i ps hps
      obtain ⟨v', h1, h2⟩ := abuild_run h (hA.parts hps) w
      refine ⟨v', ?_, h2⟩
      have e : (List.map (fun (x : Nat × Operand) => match x with | (i, x) => (i, a'.eval x)) parts.toList).toArray = parts.map fun (i, x) => (i, a'.eval x) := by
        rw [← Array.toList_map]
      rw [e] at h1
      simp only [execOp, Sem.run_bind, h1, Result.andThen_ok, Sem.run_pure]
    · cases h
  · split at h
    · rename_i x u hx
      obtain ⟨v', h1, h2⟩ := aentry_run (P := P) hR h (hA.ev hx)
      exact ⟨v', by simp only [execOp, Sem.run_bind, h1, Result.andThen_ok, Sem.run_pure], h2⟩
    · cases h
  · split at h
    · rename_i u hu; cases h; exact aval_run (P := P) hR hA hu
    · exact asym_run hp hR hA h
end Go.Eng

/- Operations that change memory: new blocks, stores, append, copy. -/
namespace Go.Eng
open Go.RowKit

/-- What an operation has come to: related value, related memory; nothing below B has turned. -/
def Done (G : Ctx) (B : Prot) (w : World) (m' : Mem) (v : Value) (res : Result Next) : Prop :=
  ∃ G' v' w' r, res = .ok r w' ∧ (r = .value v' ∨ (r = .skip ∧ v' = undef)) ∧ Grow G w G' ∧ R G' B m' w' ∧ VRel G' v v' ∧ Keep B w w'

def oneCells (l : List Value) : Bool := l.all Value.oneCell'
theorem oneCells_at {l : List Value} (h : oneCells l = true) {i : Nat} {v : Value} (hi : l[i]? = some v) : v.oneCell' = true := by
  have := List.all_eq_true.1 h v (List.mem_of_getElem? hi)
  exact this
theorem oneCells_rel {G : Ctx} {c c' : Array Value} (h : AR G c c') (ho : oneCells c.toList = true) : ∀ v ∈ c'.toList, v.oneCell' = true := by
  intro v hv
  obtain ⟨i, hi, rfl⟩ := List.getElem_of_mem hv
  have hi' : i < c.size := by have := h.size; simp at hi; omega
  have hr := h.get i c[i] c'[i] (by simp [hi']) (by simp at hi; simp [hi])
  have := oneCells_at ho (i := i) (v := c[i]) (by simp [hi'])
  simp only [Array.getElem_toList]
  rw [hr.one]; exact this

/-! ### 1. New blocks -/
def Mem.row (m : Mem) (cs : List Value) : Mem := m.put (.cells cs m.nx true)
theorem R.row {G : Ctx} {B : Prot} {m : Mem} {w : World} (h : R G B m w) {cs c : Array Value} (hr : AR G cs c) (ho : oneCells cs.toList = true) (t : TypeId) :
    R (G.put m.nx w.heap.size 0 c.size) B (m.row cs.toList) (w.alloc (.cells c t)) := by
  have e := Ctx.ext_put h c.size
  refine h.alloc c.size (o := .cells cs.toList m.nx true) (fun g hg => by cases hg; rfl) ?_
  refine ⟨c, t, (0, 0), (show (w.heap.push (Obj.cells c t))[w.heap.size]? = _ from Array.getElem?_push_size), (show c.size = if w.heap.size = w.heap.size then c.size else _ from (if_pos rfl).symm), fun _ => ⟨h.base, rfl⟩, fun _ => ⟨?_, fun i v hi => ⟨oneCells_at ho hi, ?_⟩⟩⟩
  · have := hr.size; simp; omega
  · have hlt : i < cs.size := by
      rcases Nat.lt_or_ge i cs.size with h' | h'
      · exact h'
      · rw [Array.getElem?_toList, Array.getElem?_eq_none h'] at hi; cases hi
    have hlt' : i < c.size := by have := hr.size; omega
    refine ⟨c[i], by simp [hlt'], (hr.get i v c[i] (by simpa using hi) (by simp [hlt'])).mono e⟩
theorem Ctx.put_f (G : Ctx) (k b d n : Nat) : (G.put k b d n).f k = some (b, d) := if_pos rfl
theorem done_alloc {G : Ctx} {B : Prot} {m m' : Mem} {w : World} {o : Obj} {n : Nat} (h : R G B m w) (hR : R (G.put m.nx w.heap.size 0 n) B m' (w.alloc o)) {v v' : Value} (hv : VRel (G.put m.nx w.heap.size 0 n) v v') {res : Result Next} (hres : res = .ok (.value v') (w.alloc o)) :
    Done G B w m' v res := ⟨_, v', _, _, hres, .inl rfl, Ctx.grow_put h n, hR, hv, (Keep.refl B w).alloc h.base o⟩

def abox (m : Mem) (v : Value) : Option (Value × Mem) := if oneCells v.cells.toList then some (.pointer (some ⟨m.nx, 0, none⟩), m.row v.cells.toList) else none
theorem abox_run {G : Ctx} {B : Prot} {m m' : Mem} {w : World} (hR : R G B m w) {P : Program} {t : TypeId} {x x' v : Value} (h : abox m x = some (v, m')) (hx : VRel G x x') :
    Done G B w m' v ((do pure (Next.value (.pointer (some (← newVar t x')))) : Sem Next).run P w) := by
  unfold abox at h
  split at h
  · rename_i ho
    cases h
    have hc := hx.cells
    exact done_alloc hR (hR.row hc ho t) (.ptr (off := 0) (Ctx.put_f _ _ _ _ _)) (by simp [newVar, newRow])
  · cases h

def zrow (z : Value) (n : Nat) : List Value := (List.range n).map fun i => z.cells.toList[i % z.cells.size]?.getD undef
theorem zrow_eq (z : Value) (n : Nat) (h : 0 < z.cells.size ∨ n = 0) : (Array.range n).map (fun i => z.cells[i % z.cells.size]!) = (zrow z n).toArray := by
  apply Array.ext'
  simp only [Array.toList_map, Array.toList_range, zrow]
  apply List.map_congr_left
  intro i hi
  rcases h with h | h
  · have : i % z.cells.size < z.cells.size := Nat.mod_lt _ h
    simp [this]
  · subst h; simp at hi
theorem zrow_rel {G : Ctx} {z : Value} (hz : VRel G z z) (n : Nat) : AR G (zrow z n).toArray (zrow z n).toArray := by
  refine ⟨rfl, fun i x y hx hy => ?_⟩
  rw [hx] at hy; cases hy
  simp only [zrow, List.getElem?_toArray, List.getElem?_map] at hx
  obtain ⟨j, _, hj⟩ := Option.map_eq_some_iff.1 hx
  subst hj
  cases hq : z.cells.toList[j % z.cells.size]? with
  | none => simp; exact VRel.undef G
  | some u => simp; exact hz.cells.get _ _ _ (by simpa using hq) (by simpa using hq)
theorem length_zrow (z : Value) (n : Nat) : (zrow z n).length = n := by simp [zrow]

def abuildSlice (P : Program) (m : Mem) (t : TypeId) (len : Nat) (parts : List (Nat × Value)) : Option (Value × Mem) :=
  match P.underlying t with
  | some (.slice e) =>
    match azero P e, P.info? e with
    | some z, some inf =>
      if len * inf.size > 2 ^ 24 ∨ z.cells.size = 0 then none else
      match Instr.fill (fun i => some (i * inf.size, inf.size)) (zrow z (len * inf.size)).toArray parts with
      | some out => if oneCells out.toList ∧ out.size = len * inf.size then some (.slice (some ⟨m.nx, 0, none⟩) len inf.size, m.row out.toList) else none
      | none => none
    | _, _ => none
  | _ => none
theorem abuildSlice_run {G : Ctx} {B : Prot} {m m' : Mem} {w : World} (hR : R G B m w) {P : Program} {t : TypeId} {len : Nat} {parts parts' : List (Nat × Value)} {v : Value} (h : abuildSlice P m t len parts = some (v, m')) (hp : PL G parts parts') :
    Done G B w m' v ((do pure (Next.value (← Instr.buildSlice t len parts'.toArray)) : Sem Next).run P w) := by
  unfold abuildSlice at h
  split at h
  · rename_i e hu
    split at h
    · rename_i z inf hz hi
      split at h
      · cases h
      · rename_i hc
        split at h
        · rename_i out ho
          split at h
          · rename_i h1
            cases h
            obtain ⟨hz1, hz2⟩ := azero_run hz w G
            obtain ⟨out', ho', hr⟩ := fill_rel hp (zrow_rel hz2 _) ho
            have hsz : 0 < z.cells.size := by omega
            refine done_alloc hR (hR.row hr h1.1 e) (.slice (off := 0) (c := len) (Ctx.put_f _ _ _ _ _) (Nat.le_refl _) ?_) (v' := .slice (some ⟨w.heap.size, 0, none⟩) len len) ?_
            · show 0 + 0 + len * inf.size ≤ if w.heap.size = w.heap.size then out'.size else _
              rw [if_pos rfl, ← hr.size]; omega
            · have hlim : ¬ (len * inf.size > 2 ^ 24) := by omega
              simp only [Instr.buildSlice, Sem.run_bind, run_underlying hu, Result.andThen_ok, sizeOf, typeInfo, run_program, hi, Sem.run_pure]
              by_cases h0 : len * inf.size = 0
              · have hb : Array.map (fun x => (#[] : Array Value)[x % (#[] : Array Value).size]!) (Array.range (len * inf.size)) = (zrow z (len * inf.size)).toArray := by rw [h0]; simp [zrow]
                simp only [if_neg hlim, if_pos h0, Sem.run_bind, Sem.run_pure, Result.andThen_ok]
                rw [hb, ho']
                simp [newRow]
              · simp only [if_neg hlim, if_neg h0, Sem.run_bind, Sem.run_pure, Result.andThen_ok, hz1]
                rw [zrow_eq z _ (.inl hsz), ho']
                simp [newRow]
          · cases h
        · cases h
    · cases h
  · cases h

/-! ### 2. Stores -/
def astoreCells (m : Mem) (x : Value) (vs : List Value) : Option Mem :=
  match x with
  | .pointer (some ⟨k, off, none⟩) =>
    match m.h.get k with
    | some (.cells cs g true) => if m.ok g ≤ k ∧ m.cur g = k ∧ off + vs.length ≤ cs.length ∧ oneCells vs = true then some (m.write k g (lset cs off vs)) else none
    | _ => none
  | _ => none
theorem astoreCells_run {G : Ctx} {B : Prot} {m m' : Mem} {w : World} (hR : R G B m w) (P : Program) {x x' : Value} {vs vs' : List Value} (h : astoreCells m x vs = some m') (hx : VRel G x x') (hl : vs'.length = vs.length)
    (hv : ∀ (i : Nat) (x y : Value), vs[i]? = some x → vs'[i]? = some y → VRel G x y) :
    ∃ a w', x' = .pointer (some a) ∧ (storeCells a vs').run P w = .ok () w' ∧ R G B m' w' ∧ Keep B w w' := by
  unfold astoreCells at h
  split at h
  · rename_i k off
    split at h
    · rename_i cs g ho
      split at h
      · rename_i hc
        obtain ⟨h1, h2, h3, h4⟩ := hc
        cases h
        cases hx with
        | ptr hk =>
          rename_i b d
          obtain ⟨o, ho', r⟩ := hR.obj _ _ _ hk
          rw [ho] at ho'; cases ho'
          obtain ⟨c, t, fz, q1, q2, q3, q4⟩ := r
          obtain ⟨q5, q6⟩ := q3 rfl
          subst q6
          have hone : ∀ v ∈ vs', v.oneCell' = true := by
            intro v hv'
            obtain ⟨i, hi, rfl⟩ := List.getElem_of_mem hv'
            have hi' : i < vs.length := by omega
            rw [(hv i vs[i] vs'[i] (by simp [hi']) (by simp [hi])).one]
            exact oneCells_at h4 (i := i) (by simp [hi'])
          have hfit := (q4 h1).1
          have hrun := run_storeCells_at P b (d + off) t vs' 0 c w q1 (by omega) hone
          have hw := hR.write (vs := vs) (vs' := vs') hk ho h1 h2 h3 hl (fun i x y hx hy => ⟨oneCells_at h4 hx, hv i x y hx hy⟩) q1
          refine ⟨_, _, rfl, hrun, ?_, keep_setRow (Keep.refl B w) q5 _⟩
          exact hw
      · cases h
    · cases h
  · cases h
def astore (P : Program) (m : Mem) (t : TypeId) (x v : Value) : Option Mem :=
  match P.info? t with
  | some i => if v.cells.size = i.size then astoreCells m x v.cells.toList else none
  | none => none
theorem astore_run {G : Ctx} {B : Prot} {m m' : Mem} {w : World} (hR : R G B m w) {P : Program} {t : TypeId} {x x' v v' : Value} (h : astore P m t x v = some m') (hx : VRel G x x') (hv : VRel G v v') :
    Done G B w m' undef ((do Instr.storeAt t x' v'; pure Next.skip : Sem Next).run P w) := by
  unfold astore at h
  split at h
  · rename_i i hi
    split at h
    · rename_i hs
      have hc := hv.cells
      obtain ⟨a, w', rfl, h1, h2, h3⟩ := astoreCells_run hR P h hx (vs' := v'.cells.toList) (by have := hc.size; simp; omega) (fun i x y hx hy => hc.get i x y (by simpa using hx) (by simpa using hy))
      have hs' : v'.cells.size = i.size := by have := hc.size; omega
      refine ⟨G, undef, w', .skip, ?_, .inr ⟨rfl, rfl⟩, Grow.refl G w, h2, VRel.undef G, h3⟩
      simp [Instr.storeAt, Instr.sureAddr, storeVar, sizeOf, typeInfo, hi, hs', h1]
    · cases h
  · cases h
end Go.Eng

/- append, copy, make. -/
namespace Go.Eng
open Go.RowKit
theorem growDrew {G G' : Ctx} {w : World} (h : Grow G w.drew G') : Grow G w G' := ⟨h.toExt, h.rng⟩

/-- What append and copy take: how many elements; their cells. -/
def asrc (m : Mem) (size : Nat) (x : Value) : Option (Nat × List Value) :=
  match x with
  | .slice none 0 0 => some (0, [])
  | .slice (some ⟨k, off, none⟩) n es =>
    if n = 0 then some (0, []) else
    if es = size then match m.cells k with
      | some cs => if off + n * es ≤ cs.length then some (n, (cs.drop off).take (n * es)) else none
      | none => none
    else none
  | .string s => if size = 1 then some (s.size, s.data.toList.map fun b => .int .u8 b.toNat) else none
  | _ => none
theorem asrc_run {G : Ctx} {B : Prot} {m : Mem} {w : World} (hR : R G B m w) (P : Program) {size n : Nat} {x x' : Value} {cs : List Value} (h : asrc m size x = some (n, cs)) (hx : VRel G x x') :
    cs.length = n * size ∧ (Builtin.lenOf x').run P w = .ok n w ∧ ∃ cs' : List Value, cs'.length = n * size ∧ (∀ w' : World, (∀ a, w'.cell? a = w.cell? a) → (Builtin.firstCells size n x').run P w' = .ok cs'.toArray w') ∧
      (∀ (i : Nat) (u v : Value), cs[i]? = some u → cs'[i]? = some v → u.oneCell' = true ∧ VRel G u v) := by
  unfold asrc at h
  split at h
  · cases h; cases hx
    exact ⟨by simp, rfl, [], by simp, fun w' _ => by simp [Builtin.firstCells], fun i u v hu => by simp at hu⟩
  · rename_i k off n' es
    split at h
    · rename_i h0
      cases h; subst h0
      refine ⟨by simp, ?_, [], by simp, fun w' _ => ?_, fun i u v hu => by simp at hu⟩
      · cases hx <;> rfl
      · cases hx <;> simp [Builtin.firstCells, Go.loadCells, loadCellsFrom]
    · rename_i h0
      split at h
      · rename_i hes
        split at h
        · rename_i cs0 hc
          split at h
          · rename_i hn
            cases h
            cases hx with
            | slice hk h1 h2 =>
              rename_i b d c
              obtain ⟨vs', hl, _, hcell, hv⟩ := hR.loadCells P hk hc hn
              subst hes
              refine ⟨by simp; omega, rfl, vs', hl, fun w' hw' => ?_, hv⟩
              exact run_firstCells_some w' es n _ _ _ vs' hl (fun j u hj => by rw [hw']; exact hcell j u hj)
            | slice0 => omega
          · cases h
        · cases h
      · cases h
  · rename_i s
    split at h
    · rename_i h1
      cases h; cases hx; subst h1
      have hl : (s.data.toList.map fun b => (Value.int .u8 b.toNat)).length = s.size * 1 := by rw [List.length_map, Array.length_toList, Nat.mul_one]; rfl
      refine ⟨hl, rfl, s.data.toList.map fun b => .int .u8 b.toNat, hl, fun w' _ => ?_, fun i u v hu hv => ?_⟩
      · simp only [Builtin.firstCells, Sem.run_pure]
        have hx : (s.extract 0 s.size).data = s.data := by
          have : s.extract 0 s.size = s := by simp
          rw [this]
        rw [hx]
        congr 1
        apply Array.ext'
        simp
      · rw [hu] at hv; cases hv
        obtain ⟨j, _, rfl⟩ := Option.map_eq_some_iff.1 (by simpa using hu)
        exact ⟨rfl, .int _ _⟩
    · cases h
  · cases h

/-- append as the machine makes it, its two sources being what they are. -/
theorem run_append_gen {P : Program} {w : World} {t xt e ty : TypeId} {ux : TypeDesc} {inf : TypeInfo} {z : Value} (ht : P.underlying t = some (.slice e)) (hxt : P.underlying xt = some ux) (hux : (∃ e', ux = .slice e') ∨ ux = .string)
    (hi : P.info? e = some inf) (hz : inf.zero = some z) (hb : 0 < inf.bytes) {base : Option Addr} {n c cnt : Nat} {x' : Value} {news : List Value}
    (hlen : (Builtin.lenOf x').run P w = .ok cnt w) (hnew : ∀ w' : World, (∀ a, w'.cell? a = w.cell? a) → (Builtin.firstCells inf.size cnt x').run P w' = .ok news.toArray w') :
    (n + cnt ≤ c → ∀ w', (match base with | some a => (storeCells (a.add (n * inf.size)) news).run P w | none => .ok () w) = .ok () w' → (Builtin.append_ #[t, xt] ty #[.slice base n c, x']).run P w = .ok (.slice base (n + cnt) c) w') ∧
    (c < n + cnt → (n + cnt) * inf.bytes ≤ 140737488355328 → ∀ olds : List Value, (∀ w' : World, (∀ a, w'.cell? a = w.cell? a) → (Builtin.firstCells inf.size n (.slice base n c)).run P w' = .ok olds.toArray w') →
      ∃ cap, n + cnt ≤ cap ∧ (Builtin.append_ #[t, xt] ty #[.slice base n c, x']).run P w = .ok (.slice (some ⟨w.heap.size, 0, none⟩) (n + cnt) cap)
        (w.drew.alloc (.cells (olds.toArray ++ news.toArray ++ Builtin.zeroCells z.cells (cap - (n + cnt))) e))) := by
  have hzeros : (match (some xt : Option TypeId) with | some xType => (do pure ((← underlying xType) matches .int _) : Sem Bool) | none => pure false).run P w = .ok false w := by
    rcases hux with ⟨e', rfl⟩ | rfl <;> simp [run_underlying hxt]
  have hux' : ∀ k, ux ≠ .int k := by rcases hux with ⟨e', rfl⟩ | rfl <;> simp
  constructor
  · intro hroom w' hst
    have h2 := hnew w (fun _ => rfl)
    cases base with
    | none =>
      simp only [Result.ok.injEq, true_and] at hst
      subst hst
      rcases hux with ⟨e', rfl⟩ | rfl <;> simp [Builtin.append_, run_underlying ht, run_underlying hxt, sizeOf, typeInfo, hi, hlen, hroom, h2]
    | some a =>
      simp only at hst
      rcases hux with ⟨e', rfl⟩ | rfl <;> simp [Builtin.append_, run_underlying ht, run_underlying hxt, sizeOf, typeInfo, hi, hlen, hroom, h2, hst]
  · intro hgrow hfit olds hold
    have hn : ¬ (n + cnt ≤ c) := by omega
    have h48 : ¬ (281474976710656 < Builtin.nextslicecap (n + cnt) c * inf.bytes) := by
      have := growslice_fits (need := n + cnt) (old := c) (bytes := inf.bytes) hgrow hfit
      omega
    have hb0 : inf.bytes ≠ 0 := by omega
    have h3 := hnew w.drew (fun _ => rfl)
    have h4 := hold w.drew (fun _ => rfl)
    refine ⟨grownCap w (n + cnt) c e, by unfold grownCap Question.cut; simp only; omega, ?_⟩
    rcases hux with ⟨e', rfl⟩ | rfl <;>
      simp [Builtin.append_, run_underlying ht, run_underlying hxt, sizeOf, typeInfo, zeroValue, hi, hz, hlen, hn, hb0, h48, Question.forced, h3, h4, newRow, grownCap] <;> (congr 2; apply Array.ext'; simp)

def okSrc : TypeDesc → Bool
  | .slice _ | .string => true
  | _ => false
def aappend (P : Program) (m : Mem) (ts : Array TypeId) (s x : Value) : Option (Value × Mem) :=
  match ts.toList with
  | [t, xt] =>
    match P.underlying t, P.underlying xt with
    | some (.slice e), some ux =>
      if okSrc ux = false then none else
      match P.info? e, azero P e with
      | some inf, some z =>
        if inf.bytes = 0 ∨ inf.size = 0 ∨ z.cells.size ≠ inf.size then none else
        match asrc m inf.size x with
        | some (cnt, news) =>
          match s with
          | .slice none 0 0 =>
            if cnt = 0 then some (.slice none 0 0, m) else
            if cnt * inf.bytes ≤ 140737488355328 then some (.slice (some ⟨m.nx, 0, none⟩) cnt inf.size, m.row news) else none
          | .slice (some ⟨k, off, none⟩) n es =>
            if cnt = 0 then some (.slice (some ⟨k, off, none⟩) n es, m) else
            match m.h.get k with
            | some (.cells cs g true) =>
              if es = inf.size ∧ (n + cnt) * inf.bytes ≤ 140737488355328 ∧ m.ok g ≤ k ∧ off + n * es ≤ cs.length then
                some (.slice (some ⟨m.nx, 0, none⟩) (n + cnt) es, m.grow g (if off + n * es = cs.length ∧ m.cur g = k then k else m.nx) ((cs.drop off).take (n * es) ++ news))
              else none
            | _ => none
          | _ => none
        | none => none
      | _, _ => none
    | _, _ => none
  | _ => none

theorem size_zc (z : Array Value) (n : Nat) : (Builtin.zeroCells z n).size = n * z.size := by simp [Builtin.zeroCells]
theorem R.growOld {G : Ctx} {B : Prot} {m : Mem} {w : World} (h : R G B m w) {k : Nat} {p : Nat × Nat} (hk : G.f k = some p) {cs : List Value} {g : Nat} {wr : Bool} (ho : m.h.get k = some (.cells cs g wr)) : g < m.nx := by
  have h1 := h.lt hk
  have h2 := h.top k cs g wr ho
  omega
theorem R.growOld' {G : Ctx} {B : Prot} {m : Mem} {w : World} (h : R G B m w) {k : Nat} {cs : List Value} {g : Nat} {wr : Bool} (ho : m.h.get k = some (.cells cs g wr)) : g < m.nx := by
  have h2 := h.top k cs g wr ho
  rcases Nat.lt_or_ge k m.nx with h' | h'
  · omega
  · rw [(h.fresh k h').1] at ho; cases ho
theorem R.ltGet {G : Ctx} {B : Prot} {m : Mem} {w : World} (h : R G B m w) {k : Nat} {o : AObj} (ho : m.h.get k = some o) : k < m.nx := by
  rcases Nat.lt_or_ge k m.nx with h' | h'
  · exact h'
  · rw [(h.fresh k h').1] at ho; cases ho

theorem R.rowGe {G : Ctx} {B : Prot} {m : Mem} {w : World} (h : R G B m w) {cs : List Value} {c : Array Value} (t : TypeId) (hcs : cs.length ≤ c.size)
    (hv : ∀ (i : Nat) (x : Value), cs[i]? = some x → x.oneCell' = true ∧ ∃ y, c[i]? = some y ∧ VRel G x y) :
    R (G.put m.nx w.heap.size 0 c.size) B (m.row cs) (w.alloc (.cells c t)) := by
  have e := Ctx.ext_put h c.size
  refine h.alloc c.size (o := .cells cs m.nx true) (fun g hg => by cases hg; rfl) ?_
  exact ⟨c, t, (0, 0), (show (w.heap.push (Obj.cells c t))[w.heap.size]? = _ from Array.getElem?_push_size), (show c.size = if w.heap.size = w.heap.size then c.size else _ from (if_pos rfl).symm), fun _ => ⟨h.base, rfl⟩, fun _ => ⟨by omega, fun i v hi =>
    let ⟨h1, y, h2, h3⟩ := hv i v hi; ⟨h1, y, by rw [Nat.zero_add]; exact h2, h3.mono e⟩⟩⟩
theorem grown_rel {G : Ctx} {os ns os' ns' : List Value} (z : Array Value) (ho : os'.length = os.length) (hn : ns'.length = ns.length)
    (h1 : ∀ (i : Nat) (u v : Value), os[i]? = some u → os'[i]? = some v → u.oneCell' = true ∧ VRel G u v) (h2 : ∀ (i : Nat) (u v : Value), ns[i]? = some u → ns'[i]? = some v → u.oneCell' = true ∧ VRel G u v) :
    ∀ (i : Nat) (x : Value), (os ++ ns)[i]? = some x → x.oneCell' = true ∧ ∃ y, (os'.toArray ++ ns'.toArray ++ z)[i]? = some y ∧ VRel G x y := by
  intro i x hi
  have hi2 : i < os.length + ns.length := by
    rcases Nat.lt_or_ge i (os ++ ns).length with h' | h'
    · simpa using h'
    · rw [List.getElem?_eq_none h'] at hi; cases hi
  rw [Array.getElem?_append_left (by simp; omega)]
  by_cases hlt : i < os.length
  · rw [List.getElem?_append_left hlt] at hi
    rw [Array.getElem?_append_left (by simp; omega)]
    have := h1 i x (os'[i]'(by omega)) hi (by simp [ho, hlt])
    exact ⟨this.1, _, by simp [ho, hlt], this.2⟩
  · rw [List.getElem?_append_right (by omega)] at hi
    rw [Array.getElem?_append_right (by simp; omega)]
    simp only [List.size_toArray, ho]
    have hk : i - os.length < ns'.length := by omega
    have := h2 (i - os.length) x (ns'[i - os.length]'hk) hi (by simp [hk])
    exact ⟨this.1, _, by simp [hk], this.2⟩
theorem aappend_run {G : Ctx} {B : Prot} {m m' : Mem} {w : World} (hR : R G B m w) {P : Program} {ts : Array TypeId} {ty : TypeId} {s x s' x' v : Value} (h : aappend P m ts s x = some (v, m')) (hs : VRel G s s') (hx : VRel G x x') :
    Done G B w m' v ((do pure (Next.value (← Builtin.append_ ts ty #[s', x'])) : Sem Next).run P w) := by
  unfold aappend at h
  split at h
  · rename_i t xt hts
    have hts' : ts = #[t, xt] := by apply Array.ext'; simpa using hts
    subst hts'
    split at h
    · rename_i e ux hu hux
      split at h
      · cases h
      · rename_i hk
        have hux' : (∃ e', ux = .slice e') ∨ ux = .string := by
          cases ux <;> first | exact .inr rfl | exact .inl ⟨_, rfl⟩ | exact absurd rfl hk
        split at h
        · rename_i inf z hi hz0
          split at h
          · cases h
          · rename_i hsz
            have hz : inf.zero = some z := by
              unfold azero at hz0
              rw [hi] at hz0
              simp only at hz0
              split at hz0
              · split at hz0
                · cases hz0; assumption
                · cases hz0
              · cases hz0
            split at h
            · rename_i cnt news hsrc
              obtain ⟨hl, hlen, news', hl', hrun, hv⟩ := asrc_run hR P hsrc hx
              have gen := fun (base : Option Addr) (n c : Nat) => run_append_gen (ty := ty) (base := base) (n := n) (c := c) hu hux hux' hi hz (by omega) hlen hrun
              have fin : ∀ {v' : Value} {w' : World} {G' : Ctx} {v : Value} {m' : Mem}, (Builtin.append_ #[t, xt] ty #[s', x']).run P w = .ok v' w' → Grow G w G' → R G' B m' w' → VRel G' v v' → Keep B w w' →
                  Done G B w m' v ((do pure (Next.value (← Builtin.append_ #[t, xt] ty #[s', x'])) : Sem Next).run P w) := fun hr he hR' hv hb =>
                ⟨_, _, _, _, by simp [hr], .inl rfl, he, hR', hv, hb⟩
              split at h
              · cases hs
                split at h
                · rename_i h0
                  cases h; subst h0
                  exact fin ((gen none 0 0).1 (by omega) w rfl) (Grow.refl G w) hR .nilSlice (Keep.refl B w)
                · rename_i h0
                  split at h
                  · rename_i hfit
                    cases h
                    obtain ⟨cap, hcap, hr⟩ := (gen none 0 0).2 (by omega) (by simpa using hfit) [] (fun w' _ => by simp [Builtin.firstCells])
                    have hR2 := hR.drew
                    have hsize : ([].toArray ++ news'.toArray ++ Builtin.zeroCells z.cells (cap - (0 + cnt))).size = cap * inf.size := by
                      have hzc : z.cells.size = inf.size := by omega
                      have : cap * inf.size = cnt * inf.size + (cap - (0 + cnt)) * inf.size := by rw [← Nat.add_mul]; congr 1; omega
                      simp only [Nat.zero_add] at this ⊢
                      simp [size_zc, hzc, hl'] ; omega
                    have hrel := grown_rel (G := G) (os := []) (os' := []) (ns := news) (ns' := news') (Builtin.zeroCells z.cells (cap - (0 + cnt))) rfl (by omega) (fun i u v hu => by simp at hu) hv
                    have hc2 : cnt * inf.size ≤ cap * inf.size := Nat.mul_le_mul_right _ (by omega)
                    refine fin hr (growDrew (Ctx.grow_put hR2 _)) (hR2.rowGe (cs := news) e (by rw [hsize]; omega) (by simpa using hrel)) ?_ (((Keep.refl B w).drew).alloc hR2.base _)
                    rw [show (0 + cnt : Nat) = cnt from Nat.zero_add _]
                    refine .slice (off := 0) (b := w.heap.size) (d := 0) (Ctx.put_f _ _ _ _ _) (by omega) ?_
                    show 0 + 0 + cap * inf.size ≤ if w.heap.size = w.heap.size then _ else _
                    rw [if_pos rfl]
                    simp only [Nat.zero_add] at hsize ⊢
                    omega
                  · cases h
              · rename_i k off n es
                split at h
                · rename_i h0
                  cases h; subst h0
                  have hn0 : news' = [] := List.eq_nil_of_length_eq_zero (by simpa using hl')
                  subst hn0
                  cases hs with
                  | slice hk2 h1 h2 => exact fin ((gen (some _) n _).1 (by omega) w rfl) (Grow.refl G w) hR (.slice hk2 h1 h2) (Keep.refl B w)
                  | slice0 _ a' => exact fin ((gen (some a') 0 0).1 (by omega) w rfl) (Grow.refl G w) hR (.slice0 _ _ _) (Keep.refl B w)
                · rename_i h0
                  split at h
                  · rename_i cs g ho
                    split at h
                    · rename_i hc
                      obtain ⟨h1, h2, h3, h4⟩ := hc
                      cases h
                      subst h1
                      have hcells : m.cells k = some cs := by simp [Mem.cells, ho, h3]
                      have hknx := hR.ltGet ho
                      have hgk := hR.top k cs g true ho
                      have hzc : z.cells.size = inf.size := by omega
                      have hlo : m.ok g ≤ (if off + n * inf.size = cs.length ∧ m.cur g = k then k else m.nx) := by split <;> omega
                      have hgrow : ∀ (c : Nat) (olds' : List Value), c < n + cnt → olds'.length = n * inf.size → (∀ (i : Nat) (u v : Value), ((cs.drop off).take (n * inf.size))[i]? = some u → olds'[i]? = some v → u.oneCell' = true ∧ VRel G u v) →
                          (∀ w' : World, (∀ a, w'.cell? a = w.cell? a) → (Builtin.firstCells inf.size n s').run P w' = .ok olds'.toArray w') → (∃ base, s' = .slice base n c) →
                          Done G B w (m.grow g (if off + n * inf.size = cs.length ∧ m.cur g = k then k else m.nx) ((cs.drop off).take (n * inf.size) ++ news)) (.slice (some ⟨m.nx, 0, none⟩) (n + cnt) inf.size) ((do pure (Next.value (← Builtin.append_ #[t, xt] ty #[s', x'])) : Sem Next).run P w) := by
                        intro c olds' hc hlo' hov hf hbase
                        obtain ⟨base, rfl⟩ := hbase
                        obtain ⟨cap, hcap, hr⟩ := (gen base n c).2 hc h2 olds' hf
                        have hR2 := hR.drew
                        have hsize : (olds'.toArray ++ news'.toArray ++ Builtin.zeroCells z.cells (cap - (n + cnt))).size = cap * inf.size := by
                          have : cap * inf.size = n * inf.size + cnt * inf.size + (cap - (n + cnt)) * inf.size := by rw [← Nat.add_mul, ← Nat.add_mul]; congr 1; omega
                          simp [size_zc, hzc, hl', hlo'] ; omega
                        have hpl : ((cs.drop off).take (n * inf.size)).length = n * inf.size := by simp; omega
                        have hrel := grown_rel (G := G) (Builtin.zeroCells z.cells (cap - (n + cnt))) (show olds'.length = ((cs.drop off).take (n * inf.size)).length by rw [hpl]; exact hlo') (show news'.length = news.length by omega) hov hv
                        have hc2 : (n + cnt) * inf.size ≤ cap * inf.size := Nat.mul_le_mul_right _ hcap
                        rw [Nat.add_mul] at hc2
                        refine fin hr (growDrew (Ctx.grow_put hR2 _)) (hR2.growNew (t := e) (hR.growOld' ho) hlo (by rw [hsize, List.length_append, hpl]; omega) hrel) ?_ (((Keep.refl B w).drew).alloc hR2.base _)
                        refine .slice (off := 0) (b := w.heap.size) (d := 0) (Ctx.put_f _ _ _ _ _) hcap ?_
                        show 0 + 0 + cap * inf.size ≤ if w.heap.size = w.heap.size then _ else _
                        rw [if_pos rfl, hsize]; omega
                      cases hs with
                      | slice hk2 g1 g2 =>
                        rename_i b d c
                        by_cases hroom : n + cnt ≤ c
                        · obtain ⟨o, ho', r⟩ := hR.obj _ _ _ hk2
                          rw [ho] at ho'; cases ho'
                          obtain ⟨c0, t0, fz, q1, q2, q3, q4⟩ := r
                          obtain ⟨q5, q6⟩ := q3 rfl
                          subst q6
                          have hfit : d + off + n * inf.size + news'.length ≤ c0.size := by
                            have : (n + cnt) * inf.size ≤ c * inf.size := Nat.mul_le_mul_right _ hroom
                            rw [Nat.add_mul] at this
                            omega
                          have hone : ∀ v ∈ news', v.oneCell' = true := by
                            intro v hv'
                            obtain ⟨i, hi, rfl⟩ := List.getElem_of_mem hv'
                            have hi' : i < news.length := by omega
                            have := hv i news[i] news'[i] (by simp [hi']) (by simp [hi])
                            rw [this.2.one]; exact this.1
                          have hst := run_storeCells_at P b (d + off + n * inf.size) t0 news' 0 c0 w q1 (by omega) hone
                          have hw := hR.growIn (off := off) (n := n * inf.size) (lo := if off + n * inf.size = cs.length ∧ m.cur g = k then k else m.nx) (news := news) (news' := news') hk2 ho h3 h4 (by omega) hv q1 (by omega) (by
                            split
                            · rename_i hh; exact .inl ⟨rfl, hh.1, hh.2⟩
                            · exact .inr rfl)
                          refine fin ((gen (some ⟨b, d + off, none⟩) n c).1 hroom _ (by simp only [Addr.add_lit]; exact hst)) (Ctx.grow_also hR _ _ hk2) hw ?_ (keep_setRow (Keep.refl B w) q5 _)
                          exact .slice (off := 0) (if_pos rfl) hroom (by show d + off + 0 + c * inf.size ≤ G.sz b; omega)
                        · obtain ⟨vs', e1, _, e3, e4⟩ := hR.loadCells P hk2 hcells h4
                          exact hgrow c vs' (by omega) e1 e4 (fun w' hw' => run_firstCells_some w' inf.size n _ _ _ vs' e1 (fun j u hj => by rw [hw']; exact e3 j u hj)) ⟨_, rfl⟩
                      | slice0 _ a' =>
                        exact hgrow 0 [] (by omega) (by simp) (fun i u v hu => by simp at hu) (fun w' _ => by simp [Builtin.firstCells, Go.loadCells, loadCellsFrom]) ⟨_, rfl⟩
                    · cases h
                  · cases h
              · cases h
            · cases h
        · cases h
    · cases h
  · cases h
end Go.Eng

/- copy, make, clear; maps. -/
namespace Go.Eng
open Go.RowKit

def Dones (G : Ctx) (B : Prot) (w : World) (outs : List (Value × Mem)) (res : Result Next) : Prop := ∃ p ∈ outs, Done G B w p.2 p.1 res
theorem Done.dones {G : Ctx} {B : Prot} {w : World} {v : Value} {m : Mem} {res : Result Next} (h : Done G B w m v res) : Dones G B w [(v, m)] res := ⟨_, List.mem_singleton_self _, h⟩
theorem done_here {G : Ctx} {B : Prot} {w : World} {m : Mem} {v v' : Value} {res : Result Next} (hR : R G B m w) (hv : VRel G v v') (h : res = .ok (.value v') w) : Done G B w m v res :=
  ⟨G, v', w, _, h, .inl rfl, Grow.refl G _, hR, hv, Keep.refl B w⟩

/-! ### 1. copy, make, clear -/
def shorten (x : Value) (n : Nat) : Value := match x with | .slice a _ c => .slice a n c | v => v
def acopy (P : Program) (m : Mem) (ts : Array TypeId) (d x : Value) : Option (Value × Mem) :=
  match ts.toList with
  | [dT, _] =>
    match P.underlying dT with
    | some (.slice e) =>
      match P.info? e with
      | some inf =>
        match d, x with
        | .slice none 0 0, .slice _ _ _ => some (goInt 0, m)
        | .slice (some ⟨k, off, none⟩) dn es, .slice a xn xs =>
          if Nat.min xn dn = 0 then some (goInt 0, m) else
          match asrc m inf.size (.slice a (Nat.min xn dn) xs) with
          | some (_, news) => (astoreCells m (.pointer (some ⟨k, off, none⟩)) news).map fun m' => (goInt (Nat.min xn dn), m')
          | none => none
        | _, _ => none
      | none => none
    | _ => none
  | _ => none
theorem acopy_run {G : Ctx} {B : Prot} {m m' : Mem} {w : World} (hR : R G B m w) {P : Program} {ts : Array TypeId} {ty : TypeId} {d x d' x' v : Value} (h : acopy P m ts d x = some (v, m')) (hd : VRel G d d') (hx : VRel G x x') :
    Done G B w m' v ((do pure (Next.value (← Builtin.copy_ ts ty #[d', x'])) : Sem Next).run P w) := by
  unfold acopy at h
  split at h
  · rename_i dT xT hts
    have hts' : ts = #[dT, xT] := by apply Array.ext'; simpa using hts
    subst hts'
    split at h
    · rename_i e hu
      split at h
      · rename_i inf hi
        have zero : ∀ {dp xp : Option Addr} {dn dc xn xc : Nat}, Nat.min xn dn = 0 → (Builtin.copy_ #[dT, xT] ty #[.slice dp dn dc, .slice xp xn xc]).run P w = .ok (goInt 0) w := fun {dp xp dn dc xn xc} h0 => by
          have hf : (Builtin.firstCells inf.size 0 (.slice xp xn xc)).run P w = .ok #[] w := by
            cases xp <;> simp [Builtin.firstCells, Go.loadCells, loadCellsFrom]
          cases dp <;> simp [Builtin.copy_, run_underlying hu, Builtin.lenOf, sizeOf, typeInfo, hi, h0, hf, storeCells]
        split at h
        · cases h
          cases hd
          cases hx <;> exact done_here hR (.int _ _) (by simp [zero (Nat.min_zero _), goInt])
        · rename_i k off dn es a xn xs
          split at h
          · rename_i h0
            cases h
            cases hd <;> cases hx <;> exact done_here hR (.int _ _) (by simp [zero h0, goInt])
          · rename_i h0
            split at h
            · rename_i cnt news hsrc
              obtain ⟨m2, hst, heq⟩ := Option.map_eq_some_iff.1 h
              cases heq
              have hmin : Nat.min xn dn ≤ xn ∧ Nat.min xn dn ≤ dn := ⟨Nat.min_le_left _ _, Nat.min_le_right _ _⟩
              cases hx with
              | nilSlice => simp at h0
              | slice0 => simp at h0
              | slice hk g1 g2 =>
                rename_i kx offx bx dx cx
                obtain ⟨hl, hlen, news', hl', hrun, hv⟩ := asrc_run hR P hsrc (.slice (n := Nat.min xn dn) hk (Nat.le_trans hmin.1 g1) g2)
                have hcnt : cnt = Nat.min xn dn := by
                  simp only [Builtin.lenOf, Sem.run_pure, Result.ok.injEq, and_true] at hlen
                  exact hlen.symm
                subst hcnt
                cases hd with
                | slice0 => simp at h0
                | slice hkd q1 q2 =>
                  rename_i bd dd cd
                  obtain ⟨ad, w', had, hs, hR', hB⟩ := astoreCells_run hR P hst (.ptr hkd) (vs' := news') (by omega) (fun i u v hu hv' => (hv i u v hu hv').2)
                  cases had
                  refine ⟨G, _, w', _, ?_, .inl rfl, Grow.refl G _, hR', .int _ _, hB⟩
                  have hf := hrun w (fun _ => rfl)
                  have hf' : (Builtin.firstCells inf.size (Nat.min xn dn) (.slice (some ⟨bx, dx + offx, none⟩) xn cx)).run P w = .ok news'.toArray w := hf
                  simp [Builtin.copy_, run_underlying hu, Builtin.lenOf, sizeOf, typeInfo, hi, hf', hs, goInt]
            · cases h
        · cases h
      · cases h
    · cases h
  · cases h

def amakeSlice (P : Program) (m : Mem) (t : TypeId) (l c : Value) : Option (Value × Mem) :=
  match P.underlying t, l, c with
  | some (.slice e), .int _ l, .int _ c =>
    match P.info? e, azero P e with
    | some inf, some z =>
      if 0 ≤ l ∧ l ≤ c ∧ (inf.bytes : Int) * c ≤ 140737488355328 ∧ c ≤ 140737488355328 ∧ 0 < z.cells.size ∧ oneCells z.cells.toList = true then
        some (.slice (some ⟨m.nx, 0, none⟩) l.toNat inf.size, m.row (zrow z (c.toNat * inf.size)))
      else none
    | _, _ => none
  | _, _, _ => none
theorem azero_info {P : Program} {t : TypeId} {z : Value} {inf : TypeInfo} (h : azero P t = some z) (hi : P.info? t = some inf) : inf.zero = some z := by
  unfold azero at h
  rw [hi] at h
  simp only at h
  split at h
  · split at h
    · cases h; assumption
    · cases h
  · cases h
theorem oneCells_zrow {z : Value} (hz : 0 < z.cells.size) (h : oneCells z.cells.toList = true) (n : Nat) : oneCells (zrow z n) = true := by
  unfold oneCells
  rw [List.all_eq_true]
  intro v hv
  simp only [zrow, List.mem_map] at hv
  obtain ⟨i, _, rfl⟩ := hv
  have : i % z.cells.size < z.cells.size := Nat.mod_lt _ hz
  exact oneCells_at h (i := i % z.cells.size) (by simp [this])
theorem amakeSlice_run {G : Ctx} {B : Prot} {m m' : Mem} {w : World} (hR : R G B m w) {P : Program} {t : TypeId} {l c l' c' v : Value} (h : amakeSlice P m t l c = some (v, m')) (hl : VRel G l l') (hc : VRel G c c') :
    Done G B w m' v ((do pure (Next.value (← Instr.makeSlice t l' c')) : Sem Next).run P w) := by
  unfold amakeSlice at h
  split at h
  · rename_i e kl l kc c hu
    cases hl; cases hc
    split at h
    · rename_i inf z hi hz
      split at h
      · rename_i hcond
        obtain ⟨h1, h2, h3, h4, h5, h6⟩ := hcond
        cases h
        have hrun := run_make (P := P) w t e inf z hu hi (azero_info hz hi) kl kc l c h1 h2 (by omega) (by omega)
        have hm : madeCells z.cells (c.toNat * inf.size) = (zrow z (c.toNat * inf.size)).toArray := by
          unfold madeCells; exact zrow_eq z _ (.inl h5)
        rw [hm] at hrun
        refine done_alloc hR (hR.row (zrow_rel (azero_run hz w G).2 _) (oneCells_zrow h5 h6 _) e) (.slice (off := 0) (c := c.toNat) (Ctx.put_f _ _ _ _ _) (by omega) ?_) (v' := .slice (some ⟨w.heap.size, 0, none⟩) l.toNat c.toNat) (by simp [hrun])
        show 0 + 0 + c.toNat * inf.size ≤ if w.heap.size = w.heap.size then _ else _
        rw [if_pos rfl, List.size_toArray, length_zrow]; omega
      · cases h
    · cases h
  · cases h

/-! ### 2. Maps -/
def amakeMap (m : Mem) : Value × Mem := (.map (some m.nx), m.put (.map [] 0 true))
theorem amakeMap_run {G : Ctx} {B : Prot} {m : Mem} {w : World} (hR : R G B m w) {P : Program} {t : TypeId} :
    Done G B w (amakeMap m).2 (amakeMap m).1 ((do pure (Next.value (← Instr.makeMap t none)) : Sem Next).run P w) := by
  refine done_alloc (n := 0) hR (hR.alloc 0 (o := .map [] 0 true) (o' := .map #[] 0) (fun g hg => by cases hg) ⟨rfl, fun _ => hR.base, #[], (show (w.heap.push (Obj.map #[] 0))[w.heap.size]? = _ from Array.getElem?_push_size), rfl, fun i e he => by simp at he⟩) (.map (Ctx.put_f _ _ _ _ _)) (v' := .map (some w.heap.size)) ?_
  simp [Instr.makeMap]

def isLeaf : Value → Bool
  | .bool _ | .int _ _ | .string _ => true
  | _ => false
def flatKey : Value → Bool
  | .agg cs => cs.toList.all isLeaf
  | v => isLeaf v
theorem leaf_eq {G : Ctx} {v v' : Value} (h : isLeaf v = true) (hr : VRel G v v') : v' = v := by cases hr <;> first | rfl | cases h
theorem flat_eq {G : Ctx} {v v' : Value} (h : flatKey v = true) (hr : VRel G v v') : v' = v := by
  cases hr with
  | agg cs cs' hs hv =>
    congr 1
    apply Array.ext
    · exact hs.symm
    · intro i h1 h2
      have := hv i cs[i] cs'[i] (by simp [h2]) (by simp [h1])
      exact leaf_eq (List.all_eq_true.1 h cs[i] (by simp)) this
  | bool b => rfl
  | int k n => rfl
  | string s => rfl
  | _ => cases h

def amapUpdate (P : Program) (m : Mem) (t : TypeId) (x k v : Value) : Option Mem :=
  match P.underlying t, x with
  | some (.map kt _), .map (some r) =>
    match m.h.get r, P.underlying kt with
    | some (.map es cl true), some _ =>
      if akey P 20 kt k ∧ flatKey k ∧ (es.all fun e => flatKey e.key) then
        match afind P kt k es 0 with
        | some (some (i, _)) =>
          match es[i]? with
          | some e => if Instr.sameBits 10000 e.key k then some (m.setObj r (.map (es.set i { e with key := k, val := v }) cl true)) else none
          | none => none
        | some none => some (m.setObj r (.map (es ++ [{ key := k, val := v, born := cl }]) (cl + 1) true))
        | none => none
      else none
    | _, _ => none
  | _, _ => none
theorem LRel.get {G : Ctx} {l l' : List MapEntry} (h : LRel G l l') : l'.length = l.length ∧ ∀ (i : Nat) (e : MapEntry), l[i]? = some e → ∃ e', l'[i]? = some e' ∧ ERel G e e' := by
  induction h with
  | nil => exact ⟨rfl, fun i e he => by simp at he⟩
  | cons hr ht ih =>
    refine ⟨by simp [ih.1], fun i e he => ?_⟩
    cases i with
    | zero => simp at he; subst he; exact ⟨_, rfl, hr⟩
    | succ i => exact ih.2 i e (by simpa using he)
theorem map_orel {G : Ctx} {B : Prot} {m : Mem} {k b cl : Nat} {w : World} {es : List MapEntry} {es' : Array MapEntry} {wr : Bool} (hb : wr = true → B.free b) (hw : w.heap[b]? = some (.map es' cl)) (hl : LRel G es es'.toList) : ORel G B m k b 0 w (.map es cl wr) :=
  ⟨rfl, hb, es', hw, by simpa using hl.get.1, fun i e he => let ⟨e', h1, h2⟩ := hl.get.2 i e he; ⟨e', by simpa using h1, h2⟩⟩
theorem run_setObj_map {P : Program} {w : World} {b : Nat} {es : Array MapEntry} {cl : Nat} (h : w.heap[b]? = some (.map es cl)) (o : Obj) : (setObj b o).run P w = .ok () { w with heap := w.heap.setIfInBounds b o } := by
  simp [Go.setObj, Sem.run, h]
theorem keep_setObj {B : Prot} {b : Nat} {w : World} (h : B.free b) (o : Obj) : Keep B w { w with heap := w.heap.setIfInBounds b o } :=
  ⟨rfl, rfl, rfl, by simp, fun k hk => by
    have hne : b ≠ k := fun e => h (by rw [e]; exact hk)
    simp [Array.getElem?_setIfInBounds, hne]⟩
theorem heap_setObj {w : World} {b : Nat} (h : b < w.heap.size) (o : Obj) : ({ w with heap := w.heap.setIfInBounds b o } : World).heap[b]? = some o := by
  simp [Array.getElem?_setIfInBounds, h]
theorem LRel.set {G : Ctx} {l l' : List MapEntry} (h : LRel G l l') (i : Nat) {e e' : MapEntry} (he : ERel G e e') : LRel G (l.set i e) (l'.set i e') := by
  induction h generalizing i with
  | nil => exact .nil
  | cons hr ht ih =>
    cases i with
    | zero => exact .cons he ht
    | succ i => exact .cons hr (ih i)
theorem LRel.snoc {G : Ctx} {l l' : List MapEntry} (h : LRel G l l') {e e' : MapEntry} (he : ERel G e e') : LRel G (l ++ [e]) (l' ++ [e']) := by
  induction h with
  | nil => exact .cons he .nil
  | cons hr ht ih => exact .cons hr ih
theorem R.mapSet {G : Ctx} {B : Prot} {m : Mem} {w : World} (h : R G B m w) {k b cl cl' : Nat} {es es2 : List MapEntry} {es2' : Array MapEntry} (hk : G.f k = some (b, 0)) (ho : m.h.get k = some (.map es cl true)) (hl : LRel G es2 es2'.toList) :
    R G B (m.setObj k (.map es2 cl' true)) { w with heap := w.heap.setIfInBounds b (.map es2' cl') } ∧ Keep B w { w with heap := w.heap.setIfInBounds b (.map es2' cl') } := by
  have hb := (h.entries hk ho).2.1 rfl
  exact ⟨h.setObj hk ho rfl rfl (map_orel (fun _ => hb) (heap_setObj (h.dom k b 0 hk) _) hl), keep_setObj hb _⟩
theorem amapUpdate_run {G : Ctx} {B : Prot} {m m' : Mem} {w : World} (hR : R G B m w) {P : Program} {t : TypeId} {x k v x' k' v' : Value} (h : amapUpdate P m t x k v = some m') (hx : VRel G x x') (hk : VRel G k k') (hv : VRel G v v') :
    Done G B w m' undef ((do Instr.mapUpdate t x' k' v'; pure Next.skip : Sem Next).run P w) := by
  unfold amapUpdate at h
  split at h
  · rename_i kt et r hu
    split at h
    · rename_i es cl dk ho hkt
      split at h
      · rename_i hc
        obtain ⟨hkey, hflat, hall⟩ := hc
        cases hx with
        | map hf =>
          rename_i b
          obtain ⟨_, hb, es', h2, h3⟩ := hR.entries hf ho
          have hchk := akey_run (w := w) (P := P) false 20 kt k k' hkey hk 10000 (by omega)
          have hkk := flat_eq hflat hk
          subst hkk
          have fin : ∀ {es2 : List MapEntry} {es2' : Array MapEntry} {cl' : Nat}, LRel G es2 es2'.toList → (Instr.mapUpdate t (.map (some b)) k' v').run P w = .ok () { w with heap := w.heap.setIfInBounds b (.map es2' cl') } →
              Done G B w (m.setObj r (.map es2 cl' true)) undef ((do Instr.mapUpdate t (.map (some b)) k' v'; pure Next.skip : Sem Next).run P w) := fun hl hr =>
            ⟨G, undef, _, .skip, by simp [hr], .inr ⟨rfl, rfl⟩, Grow.refl G _, (hR.mapSet hf ho hl).1, VRel.undef G, (hR.mapSet hf ho hl).2⟩
          split at h
          · rename_i i u hfi
            split at h
            · rename_i e he
              split at h
              · rename_i hsb
                cases h
                obtain ⟨r', h4, h5⟩ := afind_run (w := w) hkt hk h3 hfi
                rcases h5 with ⟨h5, _⟩ | ⟨j, v1, v2, h5, rfl, _⟩
                · cases h5
                · cases h5
                  obtain ⟨e', he', her⟩ := h3.get.2 i e he
                  have hek := flat_eq (List.all_eq_true.1 hall e (List.mem_of_getElem? he)) her.1
                  have hlt : i < es'.size := by
                    rcases Nat.lt_or_ge i es'.size with h' | h'
                    · exact h'
                    · rw [Array.getElem?_toList, Array.getElem?_eq_none h'] at he'; cases he'
                  have he'' : es'[i]? = some e' := by simpa using he'
                  refine fin (es2' := es'.modify i fun e => { e with key := k', val := v' }) (cl' := cl) ?_ ?_
                  · have : (es'.modify i fun e => { e with key := k', val := v' }).toList = es'.toList.set i { e' with key := k', val := v' } := by
                      apply List.ext_getElem?
                      intro q
                      rw [Array.getElem?_toList, Array.getElem?_modify, List.getElem?_set]
                      by_cases hq : i = q
                      · subst hq
                        have hget : es'[i] = e' := by rw [Array.getElem?_eq_getElem hlt] at he''; exact Option.some.inj he''
                        simp [hlt, hget]
                      · simp [hq]
                    rw [this]
                    exact h3.set i ⟨hk, hv, her.2.2⟩
                  · have hks : (Instr.keyThatStays e'.key k').run P w = .ok k' w := by simp [Instr.keyThatStays, hek, hsb]
                    simp [Instr.mapUpdate, run_underlying hu, run_getObj_map h2, hchk, h4, he'', hks, run_setObj_map h2]
              · cases h
            · cases h
          · rename_i hfi
            cases h
            obtain ⟨r', h4, h5⟩ := afind_run (w := w) hkt hk h3 hfi
            rcases h5 with ⟨_, rfl⟩ | ⟨j, v1, v2, h5, _⟩
            · refine fin (es2' := es'.push { key := k', val := v', born := cl }) (cl' := cl + 1) ?_ ?_
              · rw [Array.toList_push]; exact h3.snoc ⟨hk, hv, rfl⟩
              · simp [Instr.mapUpdate, run_underlying hu, run_getObj_map h2, hchk, h4, run_setObj_map h2]
            · cases h5
          · cases h
      · cases h
    · cases h
  · cases h
end Go.Eng

/- delete, clear, a range over a map; all operations that change memory, in one function. -/
namespace Go.Eng
open Go.RowKit

def adelete (P : Program) (m : Mem) (ts : Array TypeId) (x k : Value) : Option Mem :=
  match ts[0]? with
  | some t =>
    match P.underlying t, x with
    | some (.map kt _), .map (some r) =>
      match m.h.get r, P.underlying kt with
      | some (.map es cl true), some _ =>
        if akey P 20 kt k then
          match afind P kt k es 0 with
          | some (some (i, _)) => some (m.setObj r (.map (es.eraseIdx i) cl true))
          | some none => some (m.setObj r (.map es cl true))
          | none => none
        else none
      | _, _ => none
    | _, _ => none
  | none => none
theorem LRel.erase {G : Ctx} {l l' : List MapEntry} (h : LRel G l l') (i : Nat) : LRel G (l.eraseIdx i) (l'.eraseIdx i) := by
  induction h generalizing i with
  | nil => exact .nil
  | cons hr ht ih =>
    cases i with
    | zero => exact ht
    | succ i => exact .cons hr (ih i)
theorem adelete_run {G : Ctx} {B : Prot} {m m' : Mem} {w : World} (hR : R G B m w) {P : Program} {ts : Array TypeId} {ty : TypeId} {x k x' k' : Value} (h : adelete P m ts x k = some m') (hx : VRel G x x') (hk : VRel G k k') :
    Done G B w m' undef ((do pure (Next.value (← Builtin.delete_ ts ty #[x', k'])) : Sem Next).run P w) := by
  unfold adelete at h
  split at h
  · rename_i t ht
    split at h
    · rename_i kt et r hu
      split at h
      · rename_i es cl dk ho hkt
        split at h
        · rename_i hkey
          cases hx with
          | map hf =>
            rename_i b
            obtain ⟨_, hb, es', h2, h3⟩ := hR.entries hf ho
            have hchk := akey_run (w := w) (P := P) es'.isEmpty 20 kt k k' hkey hk 10000 (by omega)
            have fin : ∀ {es2 : List MapEntry} {es2' : Array MapEntry} {cl' : Nat}, LRel G es2 es2'.toList → (Builtin.delete_ ts ty #[.map (some b), k']).run P w = .ok (.tuple #[]) { w with heap := w.heap.setIfInBounds b (.map es2' cl') } →
                Done G B w (m.setObj r (.map es2 cl' true)) undef ((do pure (Next.value (← Builtin.delete_ ts ty #[.map (some b), k'])) : Sem Next).run P w) := fun hl hr =>
              ⟨G, undef, _, .value undef, by simp [hr, undef], .inl rfl, Grow.refl G _, (hR.mapSet hf ho hl).1, VRel.undef G, (hR.mapSet hf ho hl).2⟩
            split at h
            · rename_i i u hfi
              cases h
              obtain ⟨r', h4, h5⟩ := afind_run (w := w) hkt hk h3 hfi
              rcases h5 with ⟨h5, _⟩ | ⟨j, v1, v2, h5, rfl, _⟩
              · cases h5
              · cases h5
                refine fin (es2' := es'.eraseIdxIfInBounds i) (cl' := cl) ?_ ?_
                · have : (es'.eraseIdxIfInBounds i).toList = es'.toList.eraseIdx i := by
                    rw [Array.eraseIdxIfInBounds]
                    split
                    · rw [Array.toList_eraseIdx]
                    · rename_i hge; rw [List.eraseIdx_of_length_le (by simp; omega)]
                  rw [this]; exact h3.erase i
                · simp [Builtin.delete_, ht, run_underlying hu, run_getObj_map h2, hchk, h4, run_setObj_map h2]
            · rename_i hfi
              cases h
              obtain ⟨r', h4, h5⟩ := afind_run (w := w) hkt hk h3 hfi
              rcases h5 with ⟨_, rfl⟩ | ⟨j, v1, v2, h5, _⟩
              · refine fin (es2' := es') (cl' := cl) h3 ?_
                simp [Builtin.delete_, ht, run_underlying hu, run_getObj_map h2, hchk, h4, run_setObj_map h2]
              · cases h5
            · cases h
        · cases h
      · cases h
    · cases h
  · cases h

def aclear (P : Program) (m : Mem) (ts : Array TypeId) (x : Value) : Option Mem :=
  match ts[0]? with
  | some t =>
    match P.underlying t, x with
    | some (.slice e), .slice none 0 0 => some m
    | some (.slice e), .slice (some ⟨k, off, none⟩) n es =>
      if n = 0 then some m else
      match azero P e with
      | some z => if 0 < z.cells.size then astoreCells m (.pointer (some ⟨k, off, none⟩)) (zrow z (n * z.cells.size)) else none
      | none => none
    | some (.map _ _), .map (some r) =>
      match m.h.get r with
      | some (.map es cl true) => some (m.setObj r (.map [] cl true))
      | _ => none
    | _, _ => none
  | none => none
theorem aclear_run {G : Ctx} {B : Prot} {m m' : Mem} {w : World} (hR : R G B m w) {P : Program} {ts : Array TypeId} {ty : TypeId} {x x' : Value} (h : aclear P m ts x = some m') (hx : VRel G x x') :
    Done G B w m' undef ((do pure (Next.value (← Builtin.clear_ ts ty #[x'])) : Sem Next).run P w) := by
  unfold aclear at h
  split at h
  · rename_i t ht
    split at h
    · rename_i e hu
      cases h; cases hx
      exact done_here hR (VRel.undef G) (by simp [Builtin.clear_, ht, run_underlying hu, undef])
    · rename_i e k off n es hu
      split at h
      · rename_i h0
        cases h; subst h0
        cases hx <;> exact done_here hR (VRel.undef G) (by simp [Builtin.clear_, ht, run_underlying hu, undef])
      · rename_i h0
        split at h
        · rename_i z hz
          split at h
          · rename_i hsz
            cases hx with
            | slice0 => omega
            | slice hk h1 h2 =>
              rename_i b d c
              obtain ⟨hz1, hz2⟩ := azero_run hz w G
              obtain ⟨a, w', ha, hs, hR', hB⟩ := astoreCells_run hR P h (.ptr hk) (vs' := zrow z (n * z.cells.size)) rfl (fun i x y hx hy => (zrow_rel hz2 _).get i x y (by simpa using hx) (by simpa using hy))
              cases ha
              have hzc : (Builtin.zeroCells z.cells n).toList = zrow z (n * z.cells.size) := by
                have := zrow_eq z (n * z.cells.size) (.inl hsz)
                unfold Builtin.zeroCells
                rw [this]
              obtain ⟨n, rfl⟩ : ∃ q, n = q + 1 := ⟨n - 1, by omega⟩
              exact ⟨G, undef, w', .value undef, by simp [Builtin.clear_, ht, run_underlying hu, undef, hz1, hzc, hs], .inl rfl, Grow.refl G _, hR', VRel.undef G, hB⟩
          · cases h
        · cases h
    · rename_i kt et r hu
      split at h
      · rename_i es cl ho
        cases h
        cases hx with
        | map hf =>
          rename_i b
          obtain ⟨_, hb, es', h2, h3⟩ := hR.entries hf ho
          have q := hR.mapSet (cl' := cl) (es2 := []) (es2' := #[]) hf ho .nil
          exact ⟨G, undef, _, .value undef, by simp [Builtin.clear_, ht, run_underlying hu, undef, run_getObj_map h2, run_setObj_map h2], .inl rfl, Grow.refl G _, q.1, VRel.undef G, q.2⟩
      · cases h
    · cases h
  · cases h

/-! ### A range over a map -/
def arange (P : Program) (m : Mem) (t : TypeId) (x : Value) : Option (Value × Mem) :=
  match P.underlying t, x with
  | some (.map _ _), .map none => some (.pointer (some ⟨m.nx, 0, none⟩), m.put (.iter none 0 [] 0))
  | some (.map _ _), .map (some r) =>
    match m.h.get r with
    | some (.map es cl _) => some (.pointer (some ⟨m.nx, 0, none⟩), m.put (.iter (some r) cl [] cl))
    | _ => none
  | _, _ => none
theorem arange_run {G : Ctx} {B : Prot} {m m' : Mem} {w : World} (hR : R G B m w) {P : Program} {t : TypeId} {x x' v : Value} (h : arange P m t x = some (v, m')) (hx : VRel G x x') :
    Done G B w m' v ((do pure (Next.value (← Instr.range t x')) : Sem Next).run P w) := by
  unfold arange at h
  split at h
  · rename_i k e hu
    cases h; cases hx
    refine done_alloc (n := 0) hR (hR.alloc 0 (o := .iter none 0 [] 0) (o' := .mapIter none 0 #[] 0) (fun g hg => by cases hg) ⟨rfl, hR.base, none, (show (w.heap.push (Obj.mapIter none 0 #[] 0))[w.heap.size]? = _ from Array.getElem?_push_size), .nilMap⟩) (.ptr (off := 0) (Ctx.put_f _ _ _ _ _)) (v' := .pointer (some ⟨w.heap.size, 0, none⟩)) ?_
    simp [Instr.range, run_underlying hu]
  · rename_i k e r hu
    split at h
    · rename_i es cl wr ho
      cases h
      cases hx with
      | map hf =>
        rename_i b
        obtain ⟨_, hb, es', h2, h3⟩ := hR.entries hf ho
        refine done_alloc (n := 0) hR (hR.alloc 0 (o := .iter (some r) cl [] cl) (o' := .mapIter (some b) cl #[] cl) (fun g hg => by cases hg) ⟨rfl, hR.base, some b, (show (w.heap.push (Obj.mapIter (some b) cl #[] cl))[w.heap.size]? = _ from Array.getElem?_push_size), .map ((Ctx.ext_put hR 0).f _ _ hf)⟩) (.ptr (off := 0) (Ctx.put_f _ _ _ _ _)) (v' := .pointer (some ⟨w.heap.size, 0, none⟩)) ?_
        simp [Instr.range, run_underlying hu, run_getObj_map h2]
    · cases h
  · cases h

def cands (es : List MapEntry) (since : Nat) (seen : List Nat) : List (Option MapEntry) :=
  let left := es.filter fun e => !seen.contains e.born
  (if (left.filter fun e => decide (e.born < since)).isEmpty then [none] else []) ++ ((left.filter fun e => decide (e.born < since)) ++ (left.filter fun e => decide (e.born ≥ since))).map some
def anext (m : Mem) (x : Value) (s : Bool) : Option (List (Value × Mem)) :=
  match x, s with
  | .pointer (some ⟨r, 0, none⟩), false =>
    match m.h.get r with
    | some (.iter none _ _ _) => some [(.tuple #[.bool false], m)]
    | some (.iter (some mi) since seen last) =>
      match m.h.get mi with
      | some (.map es cl _) =>
        if !seen.isEmpty && !es.isEmpty && es.all (fun e => decide (e.born ≥ last)) then none else
        some ((cands es since seen).map fun
          | some e => (.tuple #[.bool true, e.key, e.val], m.setObj r (.iter (some mi) since (seen ++ [e.born]) cl))
          | none => (.tuple #[.bool false], m))
      | _ => none
    | _ => none
  | _, _ => none
theorem LRel.filter {G : Ctx} {l l' : List MapEntry} (h : LRel G l l') (p : Nat → Bool) : LRel G (l.filter fun e => p e.born) (l'.filter fun e => p e.born) := by
  induction h with
  | nil => exact .nil
  | cons hr ht ih =>
    simp only [List.filter_cons, hr.2.2]
    split
    · exact .cons hr ih
    · exact ih
theorem LRel.append {G : Ctx} {a a' b b' : List MapEntry} (h : LRel G a a') (k : LRel G b b') : LRel G (a ++ b) (a' ++ b') := by
  induction h with
  | nil => exact k
  | cons hr ht ih => exact .cons hr ih
theorem LRel.all {G : Ctx} {l l' : List MapEntry} (h : LRel G l l') (p : Nat → Bool) : (l'.all fun e => p e.born) = (l.all fun e => p e.born) := by
  induction h with
  | nil => rfl
  | cons hr ht ih => simp only [List.all_cons, hr.2.2, ih]
/-- Of two lists of candidates: what stands at one place. -/
theorem cands_at {G : Ctx} {es es' : List MapEntry} (h : LRel G es es') (since : Nat) (seen : List Nat) :
    (cands es' since seen).length = (cands es since seen).length ∧ 0 < (cands es since seen).length ∧
    ∀ i : Nat, ((cands es since seen)[i]? = some none ∧ (cands es' since seen)[i]? = some none) ∨ (∃ e e', (cands es since seen)[i]? = some (some e) ∧ (cands es' since seen)[i]? = some (some e') ∧ ERel G e e') ∨ ((cands es since seen)[i]? = none) := by
  have h1 := h.filter fun b => !seen.contains b
  have h2 := h1.filter fun b => decide (b < since)
  have h3 := h1.filter fun b => decide (b ≥ since)
  have h4 := h2.append h3
  unfold cands
  simp only at h2 h3 h4 ⊢
  rw [h2.isEmpty]
  generalize ((es.filter fun e => !seen.contains e.born).filter fun e => decide (e.born < since)) = o at *
  generalize ((es'.filter fun e => !seen.contains e.born).filter fun e => decide (e.born < since)) = o' at *
  generalize ((es.filter fun e => !seen.contains e.born).filter fun e => decide (e.born ≥ since)) = n at *
  generalize ((es'.filter fun e => !seen.contains e.born).filter fun e => decide (e.born ≥ since)) = n' at *
  have hl := h4.get
  refine ⟨by simp only [List.length_append, List.length_map] at hl ⊢; split <;> simp <;> omega, ?_, fun i => ?_⟩
  · cases o <;> simp
  · have key : ∀ i : Nat, ((o ++ n).map some)[i]? = none ∨ ∃ e e', ((o ++ n).map some)[i]? = some (some e) ∧ ((o' ++ n').map some)[i]? = some (some e') ∧ ERel G e e' := fun i => by
      cases hq : (o ++ n)[i]? with
      | none => left; rw [List.getElem?_map, hq]; rfl
      | some e =>
        obtain ⟨e', h5, h6⟩ := hl.2 i e hq
        right; exact ⟨e, e', by rw [List.getElem?_map, hq]; rfl, by rw [List.getElem?_map, h5]; rfl, h6⟩
    split
    · cases i with
      | zero => exact .inl ⟨rfl, rfl⟩
      | succ i =>
        rcases key i with h | ⟨e, e', h, h', hr⟩
        · exact .inr (.inr (by simpa using h))
        · exact .inr (.inl ⟨e, e', by simpa using h, by simpa using h', hr⟩)
    · rcases key i with h | ⟨e, e', h, h', hr⟩
      · exact .inr (.inr (by simpa using h))
      · exact .inr (.inl ⟨e, e', by simpa using h, by simpa using h', hr⟩)
theorem anext_run {G : Ctx} {B : Prot} {m : Mem} {w : World} (hR : R G B m w) {P : Program} {s : Bool} {ty : TypeId} {x x' : Value} {outs : List (Value × Mem)} (h : anext m x s = some outs) (hx : VRel G x x') :
    Dones G B w outs ((do pure (Next.value (← Instr.next x' s ty)) : Sem Next).run P w) := by
  unfold anext at h
  split at h
  · rename_i r
    split at h
    · rename_i a1 a2 a3 hr
      cases h
      cases hx with
      | ptr hk =>
        rename_i b d
        obtain ⟨o, ho, ro⟩ := hR.obj _ _ _ hk
        rw [hr] at ho; cases ho
        obtain ⟨rfl, _, mp', h2, h3⟩ := ro
        cases h3
        have hg : (getObj b).run P w = .ok (.mapIter none a1 a2.toArray a3) w := by simp [getObj, Sem.run, h2]
        refine ⟨_, List.mem_singleton_self _, done_here hR (.tuple _ _ rfl fun i x y hx hy => ?_) (by simp [Instr.next, hg])⟩
        match i with
        | 0 => simp at hx hy; subst hx; subst hy; exact .bool _
        | i + 1 => simp at hx
    · rename_i mi since seen last hr
      split at h
      · rename_i es cl wr hm
        split at h
        · cases h
        · rename_i hcond
          cases h
          cases hx with
          | ptr hk =>
            rename_i b d
            obtain ⟨o, ho, ro⟩ := hR.obj _ _ _ hk
            rw [hr] at ho; cases ho
            obtain ⟨rfl, hBb, mp', h2, h3⟩ := ro
            cases h3 with
            | map hmf =>
              rename_i bm
              obtain ⟨_, _, es', h4, h5⟩ := hR.entries hmf hm
              have hg : (getObj b).run P w = .ok (.mapIter (some bm) since seen.toArray last) w := by simp [getObj, Sem.run, h2]
              have hcond' : (!seen.toArray.isEmpty && !es'.isEmpty && es'.all fun e => decide (e.born ≥ last)) = false := by
                have e1 : es'.isEmpty = es.isEmpty := by rw [← Array.isEmpty_toList]; exact h5.isEmpty
                have e2 : (es'.all fun e => decide (e.born ≥ last)) = es.all fun e => decide (e.born ≥ last) := by rw [← Array.all_toList]; exact h5.all fun b => decide (b ≥ last)
                rw [e1, e2]; simpa using hcond
              have hcands : ((if (Array.filter (fun e => decide (e.born < since)) (Array.filter (fun e => !seen.toArray.contains e.born) es')).isEmpty then #[none] else #[]) ++
                  (Array.filter (fun e => decide (e.born < since)) (Array.filter (fun e => !seen.toArray.contains e.born) es') ++ Array.filter (fun e => decide (e.born ≥ since)) (Array.filter (fun e => !seen.toArray.contains e.born) es')).map some) = (cands es'.toList since seen).toArray := by
                apply Array.ext'
                unfold cands
                simp only [Array.toList_append, Array.toList_map, Array.toList_filter, List.contains_toArray]
                congr 1
                rw [← Array.isEmpty_toList]
                simp only [Array.toList_filter, List.contains_toArray]
                split <;> rfl
              obtain ⟨hlen, hpos, hat⟩ := cands_at h5 since seen
              -- whichever is chosen
              have pick : ∀ i, i < (cands es since seen).length → ∀ wd : World, (∀ j : Nat, wd.heap[j]? = w.heap[j]?) → wd.heap.size = w.heap.size → R G B m wd → Keep B w wd →
                  Dones G B w ((cands es since seen).map fun | some e => (.tuple #[.bool true, e.key, e.val], m.setObj r (.iter (some mi) since (seen ++ [e.born]) cl)) | none => (.tuple #[.bool false], m))
                    (((match (cands es'.toList since seen)[i]? with
                      | some (some e) => do
                        Go.setObj b (.mapIter (some bm) since (seen.toArray.push e.born) cl)
                        pure (Next.value (.tuple #[.bool true, e.key, e.val]))
                      | some none => pure (Next.value (.tuple #[.bool false]))
                      | none => stuck "Next: no such candidate") : Sem Next).run P wd) := fun i hi wd hwd hws hRd hBd => by
                rcases hat i with ⟨e1, e2⟩ | ⟨e, e', e1, e2, her⟩ | e1
                · refine ⟨(.tuple #[.bool false], m), List.mem_map.2 ⟨none, List.mem_of_getElem? e1, rfl⟩, G, .tuple #[.bool false], wd, _, by rw [e2]; rfl, .inl rfl, Grow.refl G _, hRd, .tuple _ _ rfl fun j x y hx hy => ?_, hBd⟩
                  match j with
                  | 0 => simp at hx hy; subst hx; subst hy; exact .bool _
                  | j + 1 => simp at hx
                · have hbd : b < wd.heap.size := by rw [hws]; exact hR.dom _ _ _ hk
                  have hset : (Go.setObj b (.mapIter (some bm) since (seen.toArray.push e'.born) cl)).run P wd = .ok () { wd with heap := wd.heap.setIfInBounds b (.mapIter (some bm) since (seen.toArray.push e'.born) cl) } := by
                    have hh : wd.heap[b]? = some (.mapIter (some bm) since seen.toArray last) := (hwd b).trans h2
                    simp only [Go.setObj, Sem.run, hh]
                  refine ⟨_, List.mem_map.2 ⟨some e, List.mem_of_getElem? e1, rfl⟩, G, .tuple #[.bool true, e'.key, e'.val], _, _, by rw [e2]; simp only [Sem.run_bind, hset, Result.andThen_ok, Sem.run_pure]; rfl, .inl rfl, Grow.refl G _, ?_, ?_, hBd.trans (keep_setObj hBb _)⟩
                  · refine hRd.setObj hk hr rfl rfl ⟨rfl, hBb, some bm, ?_, .map hmf⟩
                    rw [heap_setObj hbd]
                    congr 2
                    rw [her.2.2]
                    simp
                  · refine .tuple _ _ rfl fun j x y hx hy => ?_
                    match j with
                    | 0 => simp at hx hy; subst hx; subst hy; exact .bool _
                    | 1 => simp at hx hy; subst hx; subst hy; exact her.1
                    | 2 => simp at hx hy; subst hx; subst hy; exact her.2.1
                    | j + 3 => simp at hx
                · rw [List.getElem?_eq_none_iff] at e1; omega
              have e : ((do pure (Next.value (← Instr.next (.pointer (some ⟨b, 0 + 0, none⟩)) false ty)) : Sem Next).run P w) = ((choose (.mapNext (cands es'.toList since seen).length)).run P w).andThen fun i w' =>
                  ((match (cands es'.toList since seen)[i]? with
                      | some (some e) => do
                        Go.setObj b (.mapIter (some bm) since (seen.toArray.push e.born) cl)
                        pure (Next.value (.tuple #[.bool true, e.key, e.val]))
                      | some none => pure (Next.value (.tuple #[.bool false]))
                      | none => stuck "Next: no such candidate") : Sem Next).run P w' := by
                simp only [Instr.next, Nat.zero_add, Sem.run_bind, hg, Result.andThen_ok, run_getObj_map h4]
                simp only [hcond', Bool.false_eq_true, if_false, hcands, Sem.run_bind, List.size_toArray, List.getElem?_toArray]
                cases (choose (.mapNext (cands es'.toList since seen).length)).run P w with
                | halt x w1 => rfl
                | ok i w1 =>
                  simp only [Result.andThen_ok]
                  split
                  · rename_i e he; simp only [he, Sem.run_bind, Sem.run_pure]; cases (Go.setObj b (.mapIter (some bm) since (seen.toArray.push e.born) cl)).run P w1 <;> rfl
                  · rename_i he; simp only [he, Sem.run_pure, Result.andThen_ok]
                  · rename_i he; simp only [he]; rfl
              rw [e, run_choose]
              rw [hlen]
              split
              · exact pick 0 hpos w (fun _ => rfl) rfl hR (Keep.refl B w)
              · exact pick _ (by simp only [Question.cut]; exact Nat.mod_lt _ hpos) w.drew (fun _ => rfl) rfl hR.drew ((Keep.refl B w).drew)
      · cases h
    · cases h
  · cases h
end Go.Eng
