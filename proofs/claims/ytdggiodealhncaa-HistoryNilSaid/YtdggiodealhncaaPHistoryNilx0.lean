-- PRINTED BY print.sh 35421559b90ae4d0a3588c463048766b98c2df88dd9212a6774a882060cdf62d: not written by this session
import Derived.Test.YtdggiodealhncaaProg
import Derived.Below
import Derived.Deep.Draws
import Derived.Deep.AppendLies
import Derived.Maps.AppendAt
import Derived.OwnWalk
import Derived.Laws.BytesArg
import Derived.Laws.MakeOwn
import Derived.Laws.OwnMore
import Derived.Deep.OwnRows
import Derived.Tactics
import Derived.Lib.ConvBytes
import Derived.Laws.Slices
import Derived.WalkKit
import Derived.KernelRfl
import Derived.RowKit3
import Derived.Deep.LoopGhost
import Derived.Deep.QuietTactic
import Derived.BigQuiet
import Derived.WideLaws
import Derived.Deep.DeepCutAuto
import Derived.Deep.CutBlock
import Derived.Deep.RegionHeld3
import Derived.Laws.Rows
import Derived.Lib.AppendStr
import Derived.ArgAppend
import Derived.Laws.IdiomCopy
import Derived.OrdersHeld
import Derived.Laws.BitsLemmas
import Derived.RowKit
import Derived.Test.YtdggiodealhncaaWWords
import Derived.Test.YtdggiodealhncaaWLast
import Derived.Test.YtdggiodealhncaaWTab
import Derived.Test.YtdggiodealhncaaWFour
import Derived.Test.YtdggiodealhncaaWQPut
import Derived.Test.YtdggiodealhncaaWApart
import Derived.Test.YtdggiodealhncaaWArr
import Derived.Test.YtdggiodealhncaaWZeros
import Derived.Test.YtdggiodealhncaaWFoot
import Derived.Test.YtdggiodealhncaaWKept
import Derived.Test.YtdggiodealhncaaWShare
import Derived.Test.YtdggiodealhncaaWN
import Derived.Test.YtdggiodealhncaaWFootNe
import Derived.Test.YtdggiodealhncaaWAt
import Derived.Test.YtdggiodealhncaaWEqStruct
import Derived.Test.YtdggiodealhncaaWRepsOne
import Derived.Test.YtdggiodealhncaaWInv
import Derived.Test.YtdggiodealhncaaWInvWords
import Derived.Test.YtdggiodealhncaaWGuard
import Derived.Test.YtdggiodealhncaaWNEv
import Derived.Test.YtdggiodealhncaaWMore
namespace Go.Proofs.Ytdggiodealhncaa.PHistoryNil
open Go.RowKit Go.Proofs.YtdggiodealhncaaW.PrintWords Go.Proofs.YtdggiodealhncaaW.PrintLast Go.Proofs.YtdggiodealhncaaW.PrintMore
attribute [local go_sem] max2_int min2_int max_two min_two max_three min_three max_four min_four   -- for this text's walks alone
set_option linter.unusedVariables false
set_option linter.unusedSimpArgs false



def errW : Option Int → Value
  | none => .nilIface
  | some c => .iface 0 (.int .i64 c)
theorem errW_none : errW none = .nilIface := rfl
theorem errW_some (c : Int) : errW (some c) = .iface 0 (.int .i64 c) := rfl

theorem info42 : (Try.prog.info? 42).map (fun i => (i.zero, i.size, i.bytes)) = some (some (.agg #[(.int .i64 0), (.int .i64 0), (.int .i64 0), (.int .i64 0)]), 4, 32) := by kernel_rfl
theorem info117 : (Try.prog.info? 117).map (fun i => (i.zero, i.size, i.bytes)) = some (some (.agg #[(.int .i64 0), (.int .i64 0), (.string ⟨#[]⟩), (.string ⟨#[]⟩), (.int .i64 0)]), 5, 56) := by kernel_rfl
-- the values' own types
/-! #### struct type 23 -/
structure S23 where
  f0 : Int
  f1 : Int
def z23 : S23 := ⟨(0 : Int), (0 : Int)⟩
def k23 : Kd S23 := Kd.iso (Kd.pair (Kd.int .i64) (Kd.int .i64)) (fun x : S23 => (x.f0, x.f1))
theorem k23_open {w : World} {x : S23} {cs : List Value} (h : k23.K w x cs) : cs = [.int .i64 x.f0, .int .i64 x.f1] := by
  obtain ⟨_, _, rfl, rfl, rfl⟩ := h
  exact rfl
theorem k23_openM {w : World} {base : Nat} {ok : Nat → Prop} {x : S23} {cs : List Value} (h : k23.M w base ok x cs) : cs = [.int .i64 x.f0, .int .i64 x.f1] := by
  obtain ⟨_, _, rfl, rfl, rfl⟩ := h
  exact rfl
theorem k23_mk (w : World) (x : S23)  : k23.K w x [.int .i64 x.f0, .int .i64 x.f1] := ⟨[.int .i64 x.f0], [.int .i64 x.f1], rfl, rfl, rfl⟩
theorem k23_mkM (w : World) (base : Nat) (ok : Nat → Prop) (x : S23)  : k23.M w base ok x [.int .i64 x.f0, .int .i64 x.f1] := ⟨[.int .i64 x.f0], [.int .i64 x.f1], rfl, rfl, rfl⟩
theorem k23_mkF (W : World) (ok : Nat → Prop) (x : S23) : Kd.FK k23 W ok x [.int .i64 x.f0, .int .i64 x.f1] := fun W2 _ => k23_mk W2 x
def rd_T23 (xs : List S23) (i : Int) : S23 := xs.getD i.toNat z23
theorem at_T23 {w : World} {A : Option Addr} {n : Nat} {xs : List S23} (h : Kd.C k23 w A n xs) (i : Int) (h0 : 0 ≤ i) (h1 : i < n) : ∃ ad , A = some ad ∧ w.cell? (ad.add (i.toNat * 2)) = some (.int .i64 (rd_T23 xs i).f0) ∧ w.cell? ⟨(ad.add (i.toNat * 2)).block, (ad.add (i.toNat * 2)).off + 1, none⟩ = some (.int .i64 (rd_T23 xs i).f1) := by
  obtain ⟨ad, c, e, _, hK, hc0⟩ := Kd.C_get h z23 i h0 h1
  have hc : ∀ j u, c[j]? = some u → w.cell? (ad.add (i.toNat * 2 + j)) = some u := hc0
  obtain rfl := k23_open hK
  exact ⟨ad, e, hc 0 _ rfl, by rw [← add_field _ _ 1 (by omega)]; exact hc 1 _ rfl⟩

/-! #### struct type 150 -/
structure S150 where
  f0 : S23
  f1 : ByteArray
  f2 : ByteArray
  f3 : Int
def z150 : S150 := ⟨z23, (⟨#[]⟩ : ByteArray), (⟨#[]⟩ : ByteArray), (0 : Int)⟩
def k150 : Kd S150 := Kd.iso (Kd.pair k23 (Kd.pair Kd.string (Kd.pair Kd.string (Kd.int .i64)))) (fun x : S150 => (x.f0, x.f1, x.f2, x.f3))
theorem k150_open {w : World} {x : S150} {cs : List Value} (h : k150.K w x cs) : cs = [.int .i64 x.f0.f0, .int .i64 x.f0.f1, .string x.f1, .string x.f2, .int .i64 x.f3] := by
  obtain ⟨_, _, rfl, s0, ⟨_, _, rfl, rfl, ⟨_, _, rfl, rfl, rfl⟩⟩⟩ := h
  obtain rfl := k23_open s0
  exact rfl
theorem k150_openM {w : World} {base : Nat} {ok : Nat → Prop} {x : S150} {cs : List Value} (h : k150.M w base ok x cs) : cs = [.int .i64 x.f0.f0, .int .i64 x.f0.f1, .string x.f1, .string x.f2, .int .i64 x.f3] := by
  obtain ⟨_, _, rfl, s0, ⟨_, _, rfl, rfl, ⟨_, _, rfl, rfl, rfl⟩⟩⟩ := h
  obtain rfl := k23_openM s0
  exact rfl
theorem k150_mk (w : World) (x : S150)  : k150.K w x [.int .i64 x.f0.f0, .int .i64 x.f0.f1, .string x.f1, .string x.f2, .int .i64 x.f3] := ⟨[.int .i64 x.f0.f0, .int .i64 x.f0.f1], [.string x.f1, .string x.f2, .int .i64 x.f3], rfl, (k23_mk w x.f0 ), ⟨[.string x.f1], [.string x.f2, .int .i64 x.f3], rfl, rfl, ⟨[.string x.f2], [.int .i64 x.f3], rfl, rfl, rfl⟩⟩⟩
theorem k150_mkM (w : World) (base : Nat) (ok : Nat → Prop) (x : S150)  : k150.M w base ok x [.int .i64 x.f0.f0, .int .i64 x.f0.f1, .string x.f1, .string x.f2, .int .i64 x.f3] := ⟨[.int .i64 x.f0.f0, .int .i64 x.f0.f1], [.string x.f1, .string x.f2, .int .i64 x.f3], rfl, (k23_mkM w base ok x.f0 ), ⟨[.string x.f1], [.string x.f2, .int .i64 x.f3], rfl, rfl, ⟨[.string x.f2], [.int .i64 x.f3], rfl, rfl, rfl⟩⟩⟩
theorem k150_mkF (W : World) (ok : Nat → Prop) (x : S150) : Kd.FK k150 W ok x [.int .i64 x.f0.f0, .int .i64 x.f0.f1, .string x.f1, .string x.f2, .int .i64 x.f3] := fun W2 _ => k150_mk W2 x
def rd_T150 (xs : List S150) (i : Int) : S150 := xs.getD i.toNat z150
theorem at_T150 {w : World} {A : Option Addr} {n : Nat} {xs : List S150} (h : Kd.C k150 w A n xs) (i : Int) (h0 : 0 ≤ i) (h1 : i < n) : ∃ ad , A = some ad ∧ w.cell? (ad.add (i.toNat * 5)) = some (.int .i64 (rd_T150 xs i).f0.f0) ∧ w.cell? ⟨(ad.add (i.toNat * 5)).block, (ad.add (i.toNat * 5)).off + 1, none⟩ = some (.int .i64 (rd_T150 xs i).f0.f1) ∧ w.cell? ⟨(ad.add (i.toNat * 5)).block, (ad.add (i.toNat * 5)).off + 2, none⟩ = some (.string (rd_T150 xs i).f1) ∧ w.cell? ⟨(ad.add (i.toNat * 5)).block, (ad.add (i.toNat * 5)).off + 3, none⟩ = some (.string (rd_T150 xs i).f2) ∧ w.cell? ⟨(ad.add (i.toNat * 5)).block, (ad.add (i.toNat * 5)).off + 4, none⟩ = some (.int .i64 (rd_T150 xs i).f3) := by
  obtain ⟨ad, c, e, _, hK, hc0⟩ := Kd.C_get h z150 i h0 h1
  have hc : ∀ j u, c[j]? = some u → w.cell? (ad.add (i.toNat * 5 + j)) = some u := hc0
  obtain rfl := k150_open hK
  exact ⟨ad, e, hc 0 _ rfl, by rw [← add_field _ _ 1 (by omega)]; exact hc 1 _ rfl, by rw [← add_field _ _ 2 (by omega)]; exact hc 2 _ rfl, by rw [← add_field _ _ 3 (by omega)]; exact hc 3 _ rfl, by rw [← add_field _ _ 4 (by omega)]; exact hc 4 _ rfl⟩

/-! #### struct type 25 -/
structure S25 where
  f0 : Int
  f1 : S23
  f2 : ByteArray
  f3 : ByteArray
  f4 : Int
  f5 : Int
def z25 : S25 := ⟨(0 : Int), z23, (⟨#[]⟩ : ByteArray), (⟨#[]⟩ : ByteArray), (0 : Int), (0 : Int)⟩
def k25 : Kd S25 := Kd.iso (Kd.pair (Kd.int .i64) (Kd.pair k23 (Kd.pair Kd.string (Kd.pair Kd.string (Kd.pair (Kd.int .i64) (Kd.int .i64)))))) (fun x : S25 => (x.f0, x.f1, x.f2, x.f3, x.f4, x.f5))
theorem k25_open {w : World} {x : S25} {cs : List Value} (h : k25.K w x cs) : cs = [.int .i64 x.f0, .int .i64 x.f1.f0, .int .i64 x.f1.f1, .string x.f2, .string x.f3, .int .i64 x.f4, .int .i64 x.f5] := by
  obtain ⟨_, _, rfl, rfl, ⟨_, _, rfl, s1, ⟨_, _, rfl, rfl, ⟨_, _, rfl, rfl, ⟨_, _, rfl, rfl, rfl⟩⟩⟩⟩⟩ := h
  obtain rfl := k23_open s1
  exact rfl
theorem k25_openM {w : World} {base : Nat} {ok : Nat → Prop} {x : S25} {cs : List Value} (h : k25.M w base ok x cs) : cs = [.int .i64 x.f0, .int .i64 x.f1.f0, .int .i64 x.f1.f1, .string x.f2, .string x.f3, .int .i64 x.f4, .int .i64 x.f5] := by
  obtain ⟨_, _, rfl, rfl, ⟨_, _, rfl, s1, ⟨_, _, rfl, rfl, ⟨_, _, rfl, rfl, ⟨_, _, rfl, rfl, rfl⟩⟩⟩⟩⟩ := h
  obtain rfl := k23_openM s1
  exact rfl
theorem k25_mk (w : World) (x : S25)  : k25.K w x [.int .i64 x.f0, .int .i64 x.f1.f0, .int .i64 x.f1.f1, .string x.f2, .string x.f3, .int .i64 x.f4, .int .i64 x.f5] := ⟨[.int .i64 x.f0], [.int .i64 x.f1.f0, .int .i64 x.f1.f1, .string x.f2, .string x.f3, .int .i64 x.f4, .int .i64 x.f5], rfl, rfl, ⟨[.int .i64 x.f1.f0, .int .i64 x.f1.f1], [.string x.f2, .string x.f3, .int .i64 x.f4, .int .i64 x.f5], rfl, (k23_mk w x.f1 ), ⟨[.string x.f2], [.string x.f3, .int .i64 x.f4, .int .i64 x.f5], rfl, rfl, ⟨[.string x.f3], [.int .i64 x.f4, .int .i64 x.f5], rfl, rfl, ⟨[.int .i64 x.f4], [.int .i64 x.f5], rfl, rfl, rfl⟩⟩⟩⟩⟩
theorem k25_mkM (w : World) (base : Nat) (ok : Nat → Prop) (x : S25)  : k25.M w base ok x [.int .i64 x.f0, .int .i64 x.f1.f0, .int .i64 x.f1.f1, .string x.f2, .string x.f3, .int .i64 x.f4, .int .i64 x.f5] := ⟨[.int .i64 x.f0], [.int .i64 x.f1.f0, .int .i64 x.f1.f1, .string x.f2, .string x.f3, .int .i64 x.f4, .int .i64 x.f5], rfl, rfl, ⟨[.int .i64 x.f1.f0, .int .i64 x.f1.f1], [.string x.f2, .string x.f3, .int .i64 x.f4, .int .i64 x.f5], rfl, (k23_mkM w base ok x.f1 ), ⟨[.string x.f2], [.string x.f3, .int .i64 x.f4, .int .i64 x.f5], rfl, rfl, ⟨[.string x.f3], [.int .i64 x.f4, .int .i64 x.f5], rfl, rfl, ⟨[.int .i64 x.f4], [.int .i64 x.f5], rfl, rfl, rfl⟩⟩⟩⟩⟩
theorem k25_mkF (W : World) (ok : Nat → Prop) (x : S25) : Kd.FK k25 W ok x [.int .i64 x.f0, .int .i64 x.f1.f0, .int .i64 x.f1.f1, .string x.f2, .string x.f3, .int .i64 x.f4, .int .i64 x.f5] := fun W2 _ => k25_mk W2 x
def rd_T25 (xs : List S25) (i : Int) : S25 := xs.getD i.toNat z25
theorem at_T25 {w : World} {A : Option Addr} {n : Nat} {xs : List S25} (h : Kd.C k25 w A n xs) (i : Int) (h0 : 0 ≤ i) (h1 : i < n) : ∃ ad , A = some ad ∧ w.cell? (ad.add (i.toNat * 7)) = some (.int .i64 (rd_T25 xs i).f0) ∧ w.cell? ⟨(ad.add (i.toNat * 7)).block, (ad.add (i.toNat * 7)).off + 1, none⟩ = some (.int .i64 (rd_T25 xs i).f1.f0) ∧ w.cell? ⟨(ad.add (i.toNat * 7)).block, (ad.add (i.toNat * 7)).off + 2, none⟩ = some (.int .i64 (rd_T25 xs i).f1.f1) ∧ w.cell? ⟨(ad.add (i.toNat * 7)).block, (ad.add (i.toNat * 7)).off + 3, none⟩ = some (.string (rd_T25 xs i).f2) ∧ w.cell? ⟨(ad.add (i.toNat * 7)).block, (ad.add (i.toNat * 7)).off + 4, none⟩ = some (.string (rd_T25 xs i).f3) ∧ w.cell? ⟨(ad.add (i.toNat * 7)).block, (ad.add (i.toNat * 7)).off + 5, none⟩ = some (.int .i64 (rd_T25 xs i).f4) ∧ w.cell? ⟨(ad.add (i.toNat * 7)).block, (ad.add (i.toNat * 7)).off + 6, none⟩ = some (.int .i64 (rd_T25 xs i).f5) := by
  obtain ⟨ad, c, e, _, hK, hc0⟩ := Kd.C_get h z25 i h0 h1
  have hc : ∀ j u, c[j]? = some u → w.cell? (ad.add (i.toNat * 7 + j)) = some u := hc0
  obtain rfl := k25_open hK
  exact ⟨ad, e, hc 0 _ rfl, by rw [← add_field _ _ 1 (by omega)]; exact hc 1 _ rfl, by rw [← add_field _ _ 2 (by omega)]; exact hc 2 _ rfl, by rw [← add_field _ _ 3 (by omega)]; exact hc 3 _ rfl, by rw [← add_field _ _ 4 (by omega)]; exact hc 4 _ rfl, by rw [← add_field _ _ 5 (by omega)]; exact hc 5 _ rfl, by rw [← add_field _ _ 6 (by omega)]; exact hc 6 _ rfl⟩

/-! #### struct type 27 -/
structure S27 where
  f0 : Int
  f1 : Int
  f2 : Int
  f3 : Int
def z27 : S27 := ⟨(0 : Int), (0 : Int), (0 : Int), (0 : Int)⟩
def k27 : Kd S27 := Kd.iso (Kd.pair (Kd.int .i64) (Kd.pair (Kd.int .i64) (Kd.pair (Kd.int .i64) (Kd.int .i64)))) (fun x : S27 => (x.f0, x.f1, x.f2, x.f3))
theorem k27_open {w : World} {x : S27} {cs : List Value} (h : k27.K w x cs) : cs = [.int .i64 x.f0, .int .i64 x.f1, .int .i64 x.f2, .int .i64 x.f3] := by
  obtain ⟨_, _, rfl, rfl, ⟨_, _, rfl, rfl, ⟨_, _, rfl, rfl, rfl⟩⟩⟩ := h
  exact rfl
theorem k27_openM {w : World} {base : Nat} {ok : Nat → Prop} {x : S27} {cs : List Value} (h : k27.M w base ok x cs) : cs = [.int .i64 x.f0, .int .i64 x.f1, .int .i64 x.f2, .int .i64 x.f3] := by
  obtain ⟨_, _, rfl, rfl, ⟨_, _, rfl, rfl, ⟨_, _, rfl, rfl, rfl⟩⟩⟩ := h
  exact rfl
theorem k27_mk (w : World) (x : S27)  : k27.K w x [.int .i64 x.f0, .int .i64 x.f1, .int .i64 x.f2, .int .i64 x.f3] := ⟨[.int .i64 x.f0], [.int .i64 x.f1, .int .i64 x.f2, .int .i64 x.f3], rfl, rfl, ⟨[.int .i64 x.f1], [.int .i64 x.f2, .int .i64 x.f3], rfl, rfl, ⟨[.int .i64 x.f2], [.int .i64 x.f3], rfl, rfl, rfl⟩⟩⟩
theorem k27_mkM (w : World) (base : Nat) (ok : Nat → Prop) (x : S27)  : k27.M w base ok x [.int .i64 x.f0, .int .i64 x.f1, .int .i64 x.f2, .int .i64 x.f3] := ⟨[.int .i64 x.f0], [.int .i64 x.f1, .int .i64 x.f2, .int .i64 x.f3], rfl, rfl, ⟨[.int .i64 x.f1], [.int .i64 x.f2, .int .i64 x.f3], rfl, rfl, ⟨[.int .i64 x.f2], [.int .i64 x.f3], rfl, rfl, rfl⟩⟩⟩
theorem k27_mkF (W : World) (ok : Nat → Prop) (x : S27) : Kd.FK k27 W ok x [.int .i64 x.f0, .int .i64 x.f1, .int .i64 x.f2, .int .i64 x.f3] := fun W2 _ => k27_mk W2 x
def rd_T27 (xs : List S27) (i : Int) : S27 := xs.getD i.toNat z27
theorem at_T27 {w : World} {A : Option Addr} {n : Nat} {xs : List S27} (h : Kd.C k27 w A n xs) (i : Int) (h0 : 0 ≤ i) (h1 : i < n) : ∃ ad , A = some ad ∧ w.cell? (ad.add (i.toNat * 4)) = some (.int .i64 (rd_T27 xs i).f0) ∧ w.cell? ⟨(ad.add (i.toNat * 4)).block, (ad.add (i.toNat * 4)).off + 1, none⟩ = some (.int .i64 (rd_T27 xs i).f1) ∧ w.cell? ⟨(ad.add (i.toNat * 4)).block, (ad.add (i.toNat * 4)).off + 2, none⟩ = some (.int .i64 (rd_T27 xs i).f2) ∧ w.cell? ⟨(ad.add (i.toNat * 4)).block, (ad.add (i.toNat * 4)).off + 3, none⟩ = some (.int .i64 (rd_T27 xs i).f3) := by
  obtain ⟨ad, c, e, _, hK, hc0⟩ := Kd.C_get h z27 i h0 h1
  have hc : ∀ j u, c[j]? = some u → w.cell? (ad.add (i.toNat * 4 + j)) = some u := hc0
  obtain rfl := k27_open hK
  exact ⟨ad, e, hc 0 _ rfl, by rw [← add_field _ _ 1 (by omega)]; exact hc 1 _ rfl, by rw [← add_field _ _ 2 (by omega)]; exact hc 2 _ rfl, by rw [← add_field _ _ 3 (by omega)]; exact hc 3 _ rfl⟩

/-! #### struct type 29 -/
structure S29 where
  f0 : Int
  f1 : Bool
  f2 : S25
  f3 : S27
def z29 : S29 := ⟨(0 : Int), false, z25, z27⟩
def k29 : Kd S29 := Kd.iso (Kd.pair (Kd.int .i64) (Kd.pair Kd.bool (Kd.pair k25 k27))) (fun x : S29 => (x.f0, x.f1, x.f2, x.f3))
theorem k29_open {w : World} {x : S29} {cs : List Value} (h : k29.K w x cs) : cs = [.int .i64 x.f0, .bool x.f1, .int .i64 x.f2.f0, .int .i64 x.f2.f1.f0, .int .i64 x.f2.f1.f1, .string x.f2.f2, .string x.f2.f3, .int .i64 x.f2.f4, .int .i64 x.f2.f5, .int .i64 x.f3.f0, .int .i64 x.f3.f1, .int .i64 x.f3.f2, .int .i64 x.f3.f3] := by
  obtain ⟨_, _, rfl, rfl, ⟨_, _, rfl, rfl, ⟨_, _, rfl, s2, s9⟩⟩⟩ := h
  obtain rfl := k25_open s2
  obtain rfl := k27_open s9
  exact rfl
theorem k29_openM {w : World} {base : Nat} {ok : Nat → Prop} {x : S29} {cs : List Value} (h : k29.M w base ok x cs) : cs = [.int .i64 x.f0, .bool x.f1, .int .i64 x.f2.f0, .int .i64 x.f2.f1.f0, .int .i64 x.f2.f1.f1, .string x.f2.f2, .string x.f2.f3, .int .i64 x.f2.f4, .int .i64 x.f2.f5, .int .i64 x.f3.f0, .int .i64 x.f3.f1, .int .i64 x.f3.f2, .int .i64 x.f3.f3] := by
  obtain ⟨_, _, rfl, rfl, ⟨_, _, rfl, rfl, ⟨_, _, rfl, s2, s9⟩⟩⟩ := h
  obtain rfl := k25_openM s2
  obtain rfl := k27_openM s9
  exact rfl
theorem k29_mk (w : World) (x : S29)  : k29.K w x [.int .i64 x.f0, .bool x.f1, .int .i64 x.f2.f0, .int .i64 x.f2.f1.f0, .int .i64 x.f2.f1.f1, .string x.f2.f2, .string x.f2.f3, .int .i64 x.f2.f4, .int .i64 x.f2.f5, .int .i64 x.f3.f0, .int .i64 x.f3.f1, .int .i64 x.f3.f2, .int .i64 x.f3.f3] := ⟨[.int .i64 x.f0], [.bool x.f1, .int .i64 x.f2.f0, .int .i64 x.f2.f1.f0, .int .i64 x.f2.f1.f1, .string x.f2.f2, .string x.f2.f3, .int .i64 x.f2.f4, .int .i64 x.f2.f5, .int .i64 x.f3.f0, .int .i64 x.f3.f1, .int .i64 x.f3.f2, .int .i64 x.f3.f3], rfl, rfl, ⟨[.bool x.f1], [.int .i64 x.f2.f0, .int .i64 x.f2.f1.f0, .int .i64 x.f2.f1.f1, .string x.f2.f2, .string x.f2.f3, .int .i64 x.f2.f4, .int .i64 x.f2.f5, .int .i64 x.f3.f0, .int .i64 x.f3.f1, .int .i64 x.f3.f2, .int .i64 x.f3.f3], rfl, rfl, ⟨[.int .i64 x.f2.f0, .int .i64 x.f2.f1.f0, .int .i64 x.f2.f1.f1, .string x.f2.f2, .string x.f2.f3, .int .i64 x.f2.f4, .int .i64 x.f2.f5], [.int .i64 x.f3.f0, .int .i64 x.f3.f1, .int .i64 x.f3.f2, .int .i64 x.f3.f3], rfl, (k25_mk w x.f2 ), (k27_mk w x.f3 )⟩⟩⟩
theorem k29_mkM (w : World) (base : Nat) (ok : Nat → Prop) (x : S29)  : k29.M w base ok x [.int .i64 x.f0, .bool x.f1, .int .i64 x.f2.f0, .int .i64 x.f2.f1.f0, .int .i64 x.f2.f1.f1, .string x.f2.f2, .string x.f2.f3, .int .i64 x.f2.f4, .int .i64 x.f2.f5, .int .i64 x.f3.f0, .int .i64 x.f3.f1, .int .i64 x.f3.f2, .int .i64 x.f3.f3] := ⟨[.int .i64 x.f0], [.bool x.f1, .int .i64 x.f2.f0, .int .i64 x.f2.f1.f0, .int .i64 x.f2.f1.f1, .string x.f2.f2, .string x.f2.f3, .int .i64 x.f2.f4, .int .i64 x.f2.f5, .int .i64 x.f3.f0, .int .i64 x.f3.f1, .int .i64 x.f3.f2, .int .i64 x.f3.f3], rfl, rfl, ⟨[.bool x.f1], [.int .i64 x.f2.f0, .int .i64 x.f2.f1.f0, .int .i64 x.f2.f1.f1, .string x.f2.f2, .string x.f2.f3, .int .i64 x.f2.f4, .int .i64 x.f2.f5, .int .i64 x.f3.f0, .int .i64 x.f3.f1, .int .i64 x.f3.f2, .int .i64 x.f3.f3], rfl, rfl, ⟨[.int .i64 x.f2.f0, .int .i64 x.f2.f1.f0, .int .i64 x.f2.f1.f1, .string x.f2.f2, .string x.f2.f3, .int .i64 x.f2.f4, .int .i64 x.f2.f5], [.int .i64 x.f3.f0, .int .i64 x.f3.f1, .int .i64 x.f3.f2, .int .i64 x.f3.f3], rfl, (k25_mkM w base ok x.f2 ), (k27_mkM w base ok x.f3 )⟩⟩⟩
theorem k29_mkF (W : World) (ok : Nat → Prop) (x : S29) : Kd.FK k29 W ok x [.int .i64 x.f0, .bool x.f1, .int .i64 x.f2.f0, .int .i64 x.f2.f1.f0, .int .i64 x.f2.f1.f1, .string x.f2.f2, .string x.f2.f3, .int .i64 x.f2.f4, .int .i64 x.f2.f5, .int .i64 x.f3.f0, .int .i64 x.f3.f1, .int .i64 x.f3.f2, .int .i64 x.f3.f3] := fun W2 _ => k29_mk W2 x
def rd_T29 (xs : List S29) (i : Int) : S29 := xs.getD i.toNat z29
theorem at_T29 {w : World} {A : Option Addr} {n : Nat} {xs : List S29} (h : Kd.C k29 w A n xs) (i : Int) (h0 : 0 ≤ i) (h1 : i < n) : ∃ ad , A = some ad ∧ w.cell? (ad.add (i.toNat * 13)) = some (.int .i64 (rd_T29 xs i).f0) ∧ w.cell? ⟨(ad.add (i.toNat * 13)).block, (ad.add (i.toNat * 13)).off + 1, none⟩ = some (.bool (rd_T29 xs i).f1) ∧ w.cell? ⟨(ad.add (i.toNat * 13)).block, (ad.add (i.toNat * 13)).off + 2, none⟩ = some (.int .i64 (rd_T29 xs i).f2.f0) ∧ w.cell? ⟨(ad.add (i.toNat * 13)).block, (ad.add (i.toNat * 13)).off + 3, none⟩ = some (.int .i64 (rd_T29 xs i).f2.f1.f0) ∧ w.cell? ⟨(ad.add (i.toNat * 13)).block, (ad.add (i.toNat * 13)).off + 4, none⟩ = some (.int .i64 (rd_T29 xs i).f2.f1.f1) ∧ w.cell? ⟨(ad.add (i.toNat * 13)).block, (ad.add (i.toNat * 13)).off + 5, none⟩ = some (.string (rd_T29 xs i).f2.f2) ∧ w.cell? ⟨(ad.add (i.toNat * 13)).block, (ad.add (i.toNat * 13)).off + 6, none⟩ = some (.string (rd_T29 xs i).f2.f3) ∧ w.cell? ⟨(ad.add (i.toNat * 13)).block, (ad.add (i.toNat * 13)).off + 7, none⟩ = some (.int .i64 (rd_T29 xs i).f2.f4) ∧ w.cell? ⟨(ad.add (i.toNat * 13)).block, (ad.add (i.toNat * 13)).off + 8, none⟩ = some (.int .i64 (rd_T29 xs i).f2.f5) ∧ w.cell? ⟨(ad.add (i.toNat * 13)).block, (ad.add (i.toNat * 13)).off + 9, none⟩ = some (.int .i64 (rd_T29 xs i).f3.f0) ∧ w.cell? ⟨(ad.add (i.toNat * 13)).block, (ad.add (i.toNat * 13)).off + 10, none⟩ = some (.int .i64 (rd_T29 xs i).f3.f1) ∧ w.cell? ⟨(ad.add (i.toNat * 13)).block, (ad.add (i.toNat * 13)).off + 11, none⟩ = some (.int .i64 (rd_T29 xs i).f3.f2) ∧ w.cell? ⟨(ad.add (i.toNat * 13)).block, (ad.add (i.toNat * 13)).off + 12, none⟩ = some (.int .i64 (rd_T29 xs i).f3.f3) := by
  obtain ⟨ad, c, e, _, hK, hc0⟩ := Kd.C_get h z29 i h0 h1
  have hc : ∀ j u, c[j]? = some u → w.cell? (ad.add (i.toNat * 13 + j)) = some u := hc0
  obtain rfl := k29_open hK
  exact ⟨ad, e, hc 0 _ rfl, by rw [← add_field _ _ 1 (by omega)]; exact hc 1 _ rfl, by rw [← add_field _ _ 2 (by omega)]; exact hc 2 _ rfl, by rw [← add_field _ _ 3 (by omega)]; exact hc 3 _ rfl, by rw [← add_field _ _ 4 (by omega)]; exact hc 4 _ rfl, by rw [← add_field _ _ 5 (by omega)]; exact hc 5 _ rfl, by rw [← add_field _ _ 6 (by omega)]; exact hc 6 _ rfl, by rw [← add_field _ _ 7 (by omega)]; exact hc 7 _ rfl, by rw [← add_field _ _ 8 (by omega)]; exact hc 8 _ rfl, by rw [← add_field _ _ 9 (by omega)]; exact hc 9 _ rfl, by rw [← add_field _ _ 10 (by omega)]; exact hc 10 _ rfl, by rw [← add_field _ _ 11 (by omega)]; exact hc 11 _ rfl, by rw [← add_field _ _ 12 (by omega)]; exact hc 12 _ rfl⟩

/-! #### struct type 31 -/
structure S31 where
  f0 : Int
  f1 : Bool
  f2 : ByteArray
  f3 : Int
def z31 : S31 := ⟨(0 : Int), false, (⟨#[]⟩ : ByteArray), (0 : Int)⟩
def k31 : Kd S31 := Kd.iso (Kd.pair (Kd.int .i64) (Kd.pair Kd.bool (Kd.pair Kd.string (Kd.int .i64)))) (fun x : S31 => (x.f0, x.f1, x.f2, x.f3))
theorem k31_open {w : World} {x : S31} {cs : List Value} (h : k31.K w x cs) : cs = [.int .i64 x.f0, .bool x.f1, .string x.f2, .int .i64 x.f3] := by
  obtain ⟨_, _, rfl, rfl, ⟨_, _, rfl, rfl, ⟨_, _, rfl, rfl, rfl⟩⟩⟩ := h
  exact rfl
theorem k31_openM {w : World} {base : Nat} {ok : Nat → Prop} {x : S31} {cs : List Value} (h : k31.M w base ok x cs) : cs = [.int .i64 x.f0, .bool x.f1, .string x.f2, .int .i64 x.f3] := by
  obtain ⟨_, _, rfl, rfl, ⟨_, _, rfl, rfl, ⟨_, _, rfl, rfl, rfl⟩⟩⟩ := h
  exact rfl
theorem k31_mk (w : World) (x : S31)  : k31.K w x [.int .i64 x.f0, .bool x.f1, .string x.f2, .int .i64 x.f3] := ⟨[.int .i64 x.f0], [.bool x.f1, .string x.f2, .int .i64 x.f3], rfl, rfl, ⟨[.bool x.f1], [.string x.f2, .int .i64 x.f3], rfl, rfl, ⟨[.string x.f2], [.int .i64 x.f3], rfl, rfl, rfl⟩⟩⟩
theorem k31_mkM (w : World) (base : Nat) (ok : Nat → Prop) (x : S31)  : k31.M w base ok x [.int .i64 x.f0, .bool x.f1, .string x.f2, .int .i64 x.f3] := ⟨[.int .i64 x.f0], [.bool x.f1, .string x.f2, .int .i64 x.f3], rfl, rfl, ⟨[.bool x.f1], [.string x.f2, .int .i64 x.f3], rfl, rfl, ⟨[.string x.f2], [.int .i64 x.f3], rfl, rfl, rfl⟩⟩⟩
theorem k31_mkF (W : World) (ok : Nat → Prop) (x : S31) : Kd.FK k31 W ok x [.int .i64 x.f0, .bool x.f1, .string x.f2, .int .i64 x.f3] := fun W2 _ => k31_mk W2 x
def rd_T31 (xs : List S31) (i : Int) : S31 := xs.getD i.toNat z31
theorem at_T31 {w : World} {A : Option Addr} {n : Nat} {xs : List S31} (h : Kd.C k31 w A n xs) (i : Int) (h0 : 0 ≤ i) (h1 : i < n) : ∃ ad , A = some ad ∧ w.cell? (ad.add (i.toNat * 4)) = some (.int .i64 (rd_T31 xs i).f0) ∧ w.cell? ⟨(ad.add (i.toNat * 4)).block, (ad.add (i.toNat * 4)).off + 1, none⟩ = some (.bool (rd_T31 xs i).f1) ∧ w.cell? ⟨(ad.add (i.toNat * 4)).block, (ad.add (i.toNat * 4)).off + 2, none⟩ = some (.string (rd_T31 xs i).f2) ∧ w.cell? ⟨(ad.add (i.toNat * 4)).block, (ad.add (i.toNat * 4)).off + 3, none⟩ = some (.int .i64 (rd_T31 xs i).f3) := by
  obtain ⟨ad, c, e, _, hK, hc0⟩ := Kd.C_get h z31 i h0 h1
  have hc : ∀ j u, c[j]? = some u → w.cell? (ad.add (i.toNat * 4 + j)) = some u := hc0
  obtain rfl := k31_open hK
  exact ⟨ad, e, hc 0 _ rfl, by rw [← add_field _ _ 1 (by omega)]; exact hc 1 _ rfl, by rw [← add_field _ _ 2 (by omega)]; exact hc 2 _ rfl, by rw [← add_field _ _ 3 (by omega)]; exact hc 3 _ rfl⟩

def rd_L9 (xs : List (List S150)) (i : Int) : (List S150) := xs.getD i.toNat ([] : List S150)
theorem at_L9 {w : World} {A : Option Addr} {n : Nat} {xs : List (List S150)} (h : Kd.C (Kd.slice 150 k150) w A n xs) (i : Int) (h0 : 0 ≤ i) (h1 : i < n) : ∃ ad A0 c0, A = some ad ∧ w.cell? (ad.add i.toNat) = some (.slice A0 (rd_L9 xs i).length c0) ∧ (rd_L9 xs i).length ≤ c0 ∧ k150.C w A0 (rd_L9 xs i).length (rd_L9 xs i) := by
  obtain ⟨ad, c, e, _, hK, hc0⟩ := Kd.C_get h ([] : List S150) i h0 h1
  have hc : ∀ j u, c[j]? = some u → w.cell? (ad.add (i.toNat * 1 + j)) = some u := hc0
  obtain ⟨A0, c0, rfl, l0, g0⟩ := hK
  exact ⟨ad, A0, c0, e, by have hq := hc 0 _ rfl; rwa [Nat.mul_one, Nat.add_zero] at hq, l0, g0⟩

/-! #### struct type 34 -/
structure S34 where
  f0 : S29
  f1 : Int
  f2 : S31
  f3 : (List S150)
def z34 : S34 := ⟨z29, (0 : Int), z31, ([] : List S150)⟩
def k34 : Kd S34 := Kd.iso (Kd.pair k29 (Kd.pair (Kd.int .i64) (Kd.pair k31 (Kd.slice 150 k150)))) (fun x : S34 => (x.f0, x.f1, x.f2, x.f3))
theorem k34_open {w : World} {x : S34} {cs : List Value} (h : k34.K w x cs) : ∃ A18 c18, cs = [.int .i64 x.f0.f0, .bool x.f0.f1, .int .i64 x.f0.f2.f0, .int .i64 x.f0.f2.f1.f0, .int .i64 x.f0.f2.f1.f1, .string x.f0.f2.f2, .string x.f0.f2.f3, .int .i64 x.f0.f2.f4, .int .i64 x.f0.f2.f5, .int .i64 x.f0.f3.f0, .int .i64 x.f0.f3.f1, .int .i64 x.f0.f3.f2, .int .i64 x.f0.f3.f3, .int .i64 x.f1, .int .i64 x.f2.f0, .bool x.f2.f1, .string x.f2.f2, .int .i64 x.f2.f3, .slice A18 x.f3.length c18] ∧ x.f3.length ≤ c18 ∧ k150.C w A18 x.f3.length x.f3 := by
  obtain ⟨_, _, rfl, s0, ⟨_, _, rfl, rfl, ⟨_, _, rfl, s14, ⟨A18, c18, rfl, l18, g18⟩⟩⟩⟩ := h
  obtain rfl := k29_open s0
  obtain rfl := k31_open s14
  exact ⟨A18, c18, rfl, l18, g18⟩
theorem k34_openM {w : World} {base : Nat} {ok : Nat → Prop} {x : S34} {cs : List Value} (h : k34.M w base ok x cs) : ∃ v18, cs = [.int .i64 x.f0.f0, .bool x.f0.f1, .int .i64 x.f0.f2.f0, .int .i64 x.f0.f2.f1.f0, .int .i64 x.f0.f2.f1.f1, .string x.f0.f2.f2, .string x.f0.f2.f3, .int .i64 x.f0.f2.f4, .int .i64 x.f0.f2.f5, .int .i64 x.f0.f3.f0, .int .i64 x.f0.f3.f1, .int .i64 x.f0.f3.f2, .int .i64 x.f0.f3.f3, .int .i64 x.f1, .int .i64 x.f2.f0, .bool x.f2.f1, .string x.f2.f2, .int .i64 x.f2.f3, v18] ∧ k150.R 150 w base ok v18 x.f3 := by
  obtain ⟨_, _, rfl, s0, ⟨_, _, rfl, rfl, ⟨_, _, rfl, s14, ⟨v18, rfl, g18⟩⟩⟩⟩ := h
  obtain rfl := k29_openM s0
  obtain rfl := k31_openM s14
  exact ⟨v18, rfl, g18⟩
theorem k34_mk (w : World) (x : S34) {A18 : Option Addr} {c18 : Nat} (l18 : x.f3.length ≤ c18) (g18 : k150.C w A18 x.f3.length x.f3) : k34.K w x [.int .i64 x.f0.f0, .bool x.f0.f1, .int .i64 x.f0.f2.f0, .int .i64 x.f0.f2.f1.f0, .int .i64 x.f0.f2.f1.f1, .string x.f0.f2.f2, .string x.f0.f2.f3, .int .i64 x.f0.f2.f4, .int .i64 x.f0.f2.f5, .int .i64 x.f0.f3.f0, .int .i64 x.f0.f3.f1, .int .i64 x.f0.f3.f2, .int .i64 x.f0.f3.f3, .int .i64 x.f1, .int .i64 x.f2.f0, .bool x.f2.f1, .string x.f2.f2, .int .i64 x.f2.f3, .slice A18 x.f3.length c18] := ⟨[.int .i64 x.f0.f0, .bool x.f0.f1, .int .i64 x.f0.f2.f0, .int .i64 x.f0.f2.f1.f0, .int .i64 x.f0.f2.f1.f1, .string x.f0.f2.f2, .string x.f0.f2.f3, .int .i64 x.f0.f2.f4, .int .i64 x.f0.f2.f5, .int .i64 x.f0.f3.f0, .int .i64 x.f0.f3.f1, .int .i64 x.f0.f3.f2, .int .i64 x.f0.f3.f3], [.int .i64 x.f1, .int .i64 x.f2.f0, .bool x.f2.f1, .string x.f2.f2, .int .i64 x.f2.f3, .slice A18 x.f3.length c18], rfl, (k29_mk w x.f0 ), ⟨[.int .i64 x.f1], [.int .i64 x.f2.f0, .bool x.f2.f1, .string x.f2.f2, .int .i64 x.f2.f3, .slice A18 x.f3.length c18], rfl, rfl, ⟨[.int .i64 x.f2.f0, .bool x.f2.f1, .string x.f2.f2, .int .i64 x.f2.f3], [.slice A18 x.f3.length c18], rfl, (k31_mk w x.f2 ), ⟨A18, c18, rfl, l18, g18⟩⟩⟩⟩
theorem k34_mkM (w : World) (base : Nat) (ok : Nat → Prop) (x : S34) {v18 : Value} (g18 : k150.R 150 w base ok v18 x.f3) : k34.M w base ok x [.int .i64 x.f0.f0, .bool x.f0.f1, .int .i64 x.f0.f2.f0, .int .i64 x.f0.f2.f1.f0, .int .i64 x.f0.f2.f1.f1, .string x.f0.f2.f2, .string x.f0.f2.f3, .int .i64 x.f0.f2.f4, .int .i64 x.f0.f2.f5, .int .i64 x.f0.f3.f0, .int .i64 x.f0.f3.f1, .int .i64 x.f0.f3.f2, .int .i64 x.f0.f3.f3, .int .i64 x.f1, .int .i64 x.f2.f0, .bool x.f2.f1, .string x.f2.f2, .int .i64 x.f2.f3, v18] := ⟨[.int .i64 x.f0.f0, .bool x.f0.f1, .int .i64 x.f0.f2.f0, .int .i64 x.f0.f2.f1.f0, .int .i64 x.f0.f2.f1.f1, .string x.f0.f2.f2, .string x.f0.f2.f3, .int .i64 x.f0.f2.f4, .int .i64 x.f0.f2.f5, .int .i64 x.f0.f3.f0, .int .i64 x.f0.f3.f1, .int .i64 x.f0.f3.f2, .int .i64 x.f0.f3.f3], [.int .i64 x.f1, .int .i64 x.f2.f0, .bool x.f2.f1, .string x.f2.f2, .int .i64 x.f2.f3, v18], rfl, (k29_mkM w base ok x.f0 ), ⟨[.int .i64 x.f1], [.int .i64 x.f2.f0, .bool x.f2.f1, .string x.f2.f2, .int .i64 x.f2.f3, v18], rfl, rfl, ⟨[.int .i64 x.f2.f0, .bool x.f2.f1, .string x.f2.f2, .int .i64 x.f2.f3], [v18], rfl, (k31_mkM w base ok x.f2 ), ⟨v18, rfl, g18⟩⟩⟩⟩
theorem k34_openF {W : World} {ok : Nat → Prop} {x : S34} {cs : List Value} (h : Kd.FK k34 W ok x cs) : ∃ A18 c18, cs = [.int .i64 x.f0.f0, .bool x.f0.f1, .int .i64 x.f0.f2.f0, .int .i64 x.f0.f2.f1.f0, .int .i64 x.f0.f2.f1.f1, .string x.f0.f2.f2, .string x.f0.f2.f3, .int .i64 x.f0.f2.f4, .int .i64 x.f0.f2.f5, .int .i64 x.f0.f3.f0, .int .i64 x.f0.f3.f1, .int .i64 x.f0.f3.f2, .int .i64 x.f0.f3.f3, .int .i64 x.f1, .int .i64 x.f2.f0, .bool x.f2.f1, .string x.f2.f2, .int .i64 x.f2.f3, .slice A18 x.f3.length c18] ∧ x.f3.length ≤ c18 ∧ Kd.F k150 W ok A18 x.f3.length x.f3 := by
  obtain ⟨A18, c18, rfl, l18, _⟩ := k34_open (Kd.FK_now h)
  exact ⟨A18, c18, rfl, l18, (fun W' hW => by obtain ⟨A18_, c18_, he, l18_, g18_⟩ := k34_open (h W' hW); injection (Option.some.inj (show some (Value.slice A18 x.f3.length c18) = some (Value.slice A18_ x.f3.length c18_) from congrArg (fun l => l[18]?) he)) with ha_ _ _; rw [ha_]; exact g18_)⟩
theorem k34_mkF (W : World) (ok : Nat → Prop) (x : S34) {A18 : Option Addr} {c18 : Nat} (l18 : x.f3.length ≤ c18) (g18 : Kd.F k150 W ok A18 x.f3.length x.f3) : Kd.FK k34 W ok x [.int .i64 x.f0.f0, .bool x.f0.f1, .int .i64 x.f0.f2.f0, .int .i64 x.f0.f2.f1.f0, .int .i64 x.f0.f2.f1.f1, .string x.f0.f2.f2, .string x.f0.f2.f3, .int .i64 x.f0.f2.f4, .int .i64 x.f0.f2.f5, .int .i64 x.f0.f3.f0, .int .i64 x.f0.f3.f1, .int .i64 x.f0.f3.f2, .int .i64 x.f0.f3.f3, .int .i64 x.f1, .int .i64 x.f2.f0, .bool x.f2.f1, .string x.f2.f2, .int .i64 x.f2.f3, .slice A18 x.f3.length c18] := fun W2 hW => k34_mk W2 x l18 (g18 W2 hW)
def rd_T34 (xs : List S34) (i : Int) : S34 := xs.getD i.toNat z34
theorem at_T34 {w : World} {A : Option Addr} {n : Nat} {xs : List S34} (h : Kd.C k34 w A n xs) (i : Int) (h0 : 0 ≤ i) (h1 : i < n) : ∃ ad A18 c18, A = some ad ∧ w.cell? (ad.add (i.toNat * 19)) = some (.int .i64 (rd_T34 xs i).f0.f0) ∧ w.cell? ⟨(ad.add (i.toNat * 19)).block, (ad.add (i.toNat * 19)).off + 1, none⟩ = some (.bool (rd_T34 xs i).f0.f1) ∧ w.cell? ⟨(ad.add (i.toNat * 19)).block, (ad.add (i.toNat * 19)).off + 2, none⟩ = some (.int .i64 (rd_T34 xs i).f0.f2.f0) ∧ w.cell? ⟨(ad.add (i.toNat * 19)).block, (ad.add (i.toNat * 19)).off + 3, none⟩ = some (.int .i64 (rd_T34 xs i).f0.f2.f1.f0) ∧ w.cell? ⟨(ad.add (i.toNat * 19)).block, (ad.add (i.toNat * 19)).off + 4, none⟩ = some (.int .i64 (rd_T34 xs i).f0.f2.f1.f1) ∧ w.cell? ⟨(ad.add (i.toNat * 19)).block, (ad.add (i.toNat * 19)).off + 5, none⟩ = some (.string (rd_T34 xs i).f0.f2.f2) ∧ w.cell? ⟨(ad.add (i.toNat * 19)).block, (ad.add (i.toNat * 19)).off + 6, none⟩ = some (.string (rd_T34 xs i).f0.f2.f3) ∧ w.cell? ⟨(ad.add (i.toNat * 19)).block, (ad.add (i.toNat * 19)).off + 7, none⟩ = some (.int .i64 (rd_T34 xs i).f0.f2.f4) ∧ w.cell? ⟨(ad.add (i.toNat * 19)).block, (ad.add (i.toNat * 19)).off + 8, none⟩ = some (.int .i64 (rd_T34 xs i).f0.f2.f5) ∧ w.cell? ⟨(ad.add (i.toNat * 19)).block, (ad.add (i.toNat * 19)).off + 9, none⟩ = some (.int .i64 (rd_T34 xs i).f0.f3.f0) ∧ w.cell? ⟨(ad.add (i.toNat * 19)).block, (ad.add (i.toNat * 19)).off + 10, none⟩ = some (.int .i64 (rd_T34 xs i).f0.f3.f1) ∧ w.cell? ⟨(ad.add (i.toNat * 19)).block, (ad.add (i.toNat * 19)).off + 11, none⟩ = some (.int .i64 (rd_T34 xs i).f0.f3.f2) ∧ w.cell? ⟨(ad.add (i.toNat * 19)).block, (ad.add (i.toNat * 19)).off + 12, none⟩ = some (.int .i64 (rd_T34 xs i).f0.f3.f3) ∧ w.cell? ⟨(ad.add (i.toNat * 19)).block, (ad.add (i.toNat * 19)).off + 13, none⟩ = some (.int .i64 (rd_T34 xs i).f1) ∧ w.cell? ⟨(ad.add (i.toNat * 19)).block, (ad.add (i.toNat * 19)).off + 14, none⟩ = some (.int .i64 (rd_T34 xs i).f2.f0) ∧ w.cell? ⟨(ad.add (i.toNat * 19)).block, (ad.add (i.toNat * 19)).off + 15, none⟩ = some (.bool (rd_T34 xs i).f2.f1) ∧ w.cell? ⟨(ad.add (i.toNat * 19)).block, (ad.add (i.toNat * 19)).off + 16, none⟩ = some (.string (rd_T34 xs i).f2.f2) ∧ w.cell? ⟨(ad.add (i.toNat * 19)).block, (ad.add (i.toNat * 19)).off + 17, none⟩ = some (.int .i64 (rd_T34 xs i).f2.f3) ∧ w.cell? ⟨(ad.add (i.toNat * 19)).block, (ad.add (i.toNat * 19)).off + 18, none⟩ = some (.slice A18 (rd_T34 xs i).f3.length c18) ∧ (rd_T34 xs i).f3.length ≤ c18 ∧ k150.C w A18 (rd_T34 xs i).f3.length (rd_T34 xs i).f3 := by
  obtain ⟨ad, c, e, _, hK, hc0⟩ := Kd.C_get h z34 i h0 h1
  have hc : ∀ j u, c[j]? = some u → w.cell? (ad.add (i.toNat * 19 + j)) = some u := hc0
  obtain ⟨A18, c18, rfl, l18, g18⟩ := k34_open hK
  exact ⟨ad, A18, c18, e, hc 0 _ rfl, by rw [← add_field _ _ 1 (by omega)]; exact hc 1 _ rfl, by rw [← add_field _ _ 2 (by omega)]; exact hc 2 _ rfl, by rw [← add_field _ _ 3 (by omega)]; exact hc 3 _ rfl, by rw [← add_field _ _ 4 (by omega)]; exact hc 4 _ rfl, by rw [← add_field _ _ 5 (by omega)]; exact hc 5 _ rfl, by rw [← add_field _ _ 6 (by omega)]; exact hc 6 _ rfl, by rw [← add_field _ _ 7 (by omega)]; exact hc 7 _ rfl, by rw [← add_field _ _ 8 (by omega)]; exact hc 8 _ rfl, by rw [← add_field _ _ 9 (by omega)]; exact hc 9 _ rfl, by rw [← add_field _ _ 10 (by omega)]; exact hc 10 _ rfl, by rw [← add_field _ _ 11 (by omega)]; exact hc 11 _ rfl, by rw [← add_field _ _ 12 (by omega)]; exact hc 12 _ rfl, by rw [← add_field _ _ 13 (by omega)]; exact hc 13 _ rfl, by rw [← add_field _ _ 14 (by omega)]; exact hc 14 _ rfl, by rw [← add_field _ _ 15 (by omega)]; exact hc 15 _ rfl, by rw [← add_field _ _ 16 (by omega)]; exact hc 16 _ rfl, by rw [← add_field _ _ 17 (by omega)]; exact hc 17 _ rfl, by rw [← add_field _ _ 18 (by omega)]; exact hc 18 _ rfl, l18, g18⟩

/-! #### struct type 36 -/
structure S36 where
  f0 : Int
  f1 : Int
  f2 : Int
  f3 : S34
def z36 : S36 := ⟨(0 : Int), (0 : Int), (0 : Int), z34⟩
def k36 : Kd S36 := Kd.iso (Kd.pair (Kd.int .i64) (Kd.pair (Kd.int .i64) (Kd.pair (Kd.int .i64) k34))) (fun x : S36 => (x.f0, x.f1, x.f2, x.f3))
theorem k36_open {w : World} {x : S36} {cs : List Value} (h : k36.K w x cs) : ∃ A21 c21, cs = [.int .i64 x.f0, .int .i64 x.f1, .int .i64 x.f2, .int .i64 x.f3.f0.f0, .bool x.f3.f0.f1, .int .i64 x.f3.f0.f2.f0, .int .i64 x.f3.f0.f2.f1.f0, .int .i64 x.f3.f0.f2.f1.f1, .string x.f3.f0.f2.f2, .string x.f3.f0.f2.f3, .int .i64 x.f3.f0.f2.f4, .int .i64 x.f3.f0.f2.f5, .int .i64 x.f3.f0.f3.f0, .int .i64 x.f3.f0.f3.f1, .int .i64 x.f3.f0.f3.f2, .int .i64 x.f3.f0.f3.f3, .int .i64 x.f3.f1, .int .i64 x.f3.f2.f0, .bool x.f3.f2.f1, .string x.f3.f2.f2, .int .i64 x.f3.f2.f3, .slice A21 x.f3.f3.length c21] ∧ x.f3.f3.length ≤ c21 ∧ k150.C w A21 x.f3.f3.length x.f3.f3 := by
  obtain ⟨_, _, rfl, rfl, ⟨_, _, rfl, rfl, ⟨_, _, rfl, rfl, s3⟩⟩⟩ := h
  obtain ⟨A21, c21, rfl, l21, g21⟩ := k34_open s3
  exact ⟨A21, c21, rfl, l21, g21⟩
theorem k36_openM {w : World} {base : Nat} {ok : Nat → Prop} {x : S36} {cs : List Value} (h : k36.M w base ok x cs) : ∃ v21, cs = [.int .i64 x.f0, .int .i64 x.f1, .int .i64 x.f2, .int .i64 x.f3.f0.f0, .bool x.f3.f0.f1, .int .i64 x.f3.f0.f2.f0, .int .i64 x.f3.f0.f2.f1.f0, .int .i64 x.f3.f0.f2.f1.f1, .string x.f3.f0.f2.f2, .string x.f3.f0.f2.f3, .int .i64 x.f3.f0.f2.f4, .int .i64 x.f3.f0.f2.f5, .int .i64 x.f3.f0.f3.f0, .int .i64 x.f3.f0.f3.f1, .int .i64 x.f3.f0.f3.f2, .int .i64 x.f3.f0.f3.f3, .int .i64 x.f3.f1, .int .i64 x.f3.f2.f0, .bool x.f3.f2.f1, .string x.f3.f2.f2, .int .i64 x.f3.f2.f3, v21] ∧ k150.R 150 w base ok v21 x.f3.f3 := by
  obtain ⟨_, _, rfl, rfl, ⟨_, _, rfl, rfl, ⟨_, _, rfl, rfl, s3⟩⟩⟩ := h
  obtain ⟨v21, rfl, g21⟩ := k34_openM s3
  exact ⟨v21, rfl, g21⟩
theorem k36_mk (w : World) (x : S36) {A21 : Option Addr} {c21 : Nat} (l21 : x.f3.f3.length ≤ c21) (g21 : k150.C w A21 x.f3.f3.length x.f3.f3) : k36.K w x [.int .i64 x.f0, .int .i64 x.f1, .int .i64 x.f2, .int .i64 x.f3.f0.f0, .bool x.f3.f0.f1, .int .i64 x.f3.f0.f2.f0, .int .i64 x.f3.f0.f2.f1.f0, .int .i64 x.f3.f0.f2.f1.f1, .string x.f3.f0.f2.f2, .string x.f3.f0.f2.f3, .int .i64 x.f3.f0.f2.f4, .int .i64 x.f3.f0.f2.f5, .int .i64 x.f3.f0.f3.f0, .int .i64 x.f3.f0.f3.f1, .int .i64 x.f3.f0.f3.f2, .int .i64 x.f3.f0.f3.f3, .int .i64 x.f3.f1, .int .i64 x.f3.f2.f0, .bool x.f3.f2.f1, .string x.f3.f2.f2, .int .i64 x.f3.f2.f3, .slice A21 x.f3.f3.length c21] := ⟨[.int .i64 x.f0], [.int .i64 x.f1, .int .i64 x.f2, .int .i64 x.f3.f0.f0, .bool x.f3.f0.f1, .int .i64 x.f3.f0.f2.f0, .int .i64 x.f3.f0.f2.f1.f0, .int .i64 x.f3.f0.f2.f1.f1, .string x.f3.f0.f2.f2, .string x.f3.f0.f2.f3, .int .i64 x.f3.f0.f2.f4, .int .i64 x.f3.f0.f2.f5, .int .i64 x.f3.f0.f3.f0, .int .i64 x.f3.f0.f3.f1, .int .i64 x.f3.f0.f3.f2, .int .i64 x.f3.f0.f3.f3, .int .i64 x.f3.f1, .int .i64 x.f3.f2.f0, .bool x.f3.f2.f1, .string x.f3.f2.f2, .int .i64 x.f3.f2.f3, .slice A21 x.f3.f3.length c21], rfl, rfl, ⟨[.int .i64 x.f1], [.int .i64 x.f2, .int .i64 x.f3.f0.f0, .bool x.f3.f0.f1, .int .i64 x.f3.f0.f2.f0, .int .i64 x.f3.f0.f2.f1.f0, .int .i64 x.f3.f0.f2.f1.f1, .string x.f3.f0.f2.f2, .string x.f3.f0.f2.f3, .int .i64 x.f3.f0.f2.f4, .int .i64 x.f3.f0.f2.f5, .int .i64 x.f3.f0.f3.f0, .int .i64 x.f3.f0.f3.f1, .int .i64 x.f3.f0.f3.f2, .int .i64 x.f3.f0.f3.f3, .int .i64 x.f3.f1, .int .i64 x.f3.f2.f0, .bool x.f3.f2.f1, .string x.f3.f2.f2, .int .i64 x.f3.f2.f3, .slice A21 x.f3.f3.length c21], rfl, rfl, ⟨[.int .i64 x.f2], [.int .i64 x.f3.f0.f0, .bool x.f3.f0.f1, .int .i64 x.f3.f0.f2.f0, .int .i64 x.f3.f0.f2.f1.f0, .int .i64 x.f3.f0.f2.f1.f1, .string x.f3.f0.f2.f2, .string x.f3.f0.f2.f3, .int .i64 x.f3.f0.f2.f4, .int .i64 x.f3.f0.f2.f5, .int .i64 x.f3.f0.f3.f0, .int .i64 x.f3.f0.f3.f1, .int .i64 x.f3.f0.f3.f2, .int .i64 x.f3.f0.f3.f3, .int .i64 x.f3.f1, .int .i64 x.f3.f2.f0, .bool x.f3.f2.f1, .string x.f3.f2.f2, .int .i64 x.f3.f2.f3, .slice A21 x.f3.f3.length c21], rfl, rfl, (k34_mk w x.f3 l21 g21)⟩⟩⟩
theorem k36_mkM (w : World) (base : Nat) (ok : Nat → Prop) (x : S36) {v21 : Value} (g21 : k150.R 150 w base ok v21 x.f3.f3) : k36.M w base ok x [.int .i64 x.f0, .int .i64 x.f1, .int .i64 x.f2, .int .i64 x.f3.f0.f0, .bool x.f3.f0.f1, .int .i64 x.f3.f0.f2.f0, .int .i64 x.f3.f0.f2.f1.f0, .int .i64 x.f3.f0.f2.f1.f1, .string x.f3.f0.f2.f2, .string x.f3.f0.f2.f3, .int .i64 x.f3.f0.f2.f4, .int .i64 x.f3.f0.f2.f5, .int .i64 x.f3.f0.f3.f0, .int .i64 x.f3.f0.f3.f1, .int .i64 x.f3.f0.f3.f2, .int .i64 x.f3.f0.f3.f3, .int .i64 x.f3.f1, .int .i64 x.f3.f2.f0, .bool x.f3.f2.f1, .string x.f3.f2.f2, .int .i64 x.f3.f2.f3, v21] := ⟨[.int .i64 x.f0], [.int .i64 x.f1, .int .i64 x.f2, .int .i64 x.f3.f0.f0, .bool x.f3.f0.f1, .int .i64 x.f3.f0.f2.f0, .int .i64 x.f3.f0.f2.f1.f0, .int .i64 x.f3.f0.f2.f1.f1, .string x.f3.f0.f2.f2, .string x.f3.f0.f2.f3, .int .i64 x.f3.f0.f2.f4, .int .i64 x.f3.f0.f2.f5, .int .i64 x.f3.f0.f3.f0, .int .i64 x.f3.f0.f3.f1, .int .i64 x.f3.f0.f3.f2, .int .i64 x.f3.f0.f3.f3, .int .i64 x.f3.f1, .int .i64 x.f3.f2.f0, .bool x.f3.f2.f1, .string x.f3.f2.f2, .int .i64 x.f3.f2.f3, v21], rfl, rfl, ⟨[.int .i64 x.f1], [.int .i64 x.f2, .int .i64 x.f3.f0.f0, .bool x.f3.f0.f1, .int .i64 x.f3.f0.f2.f0, .int .i64 x.f3.f0.f2.f1.f0, .int .i64 x.f3.f0.f2.f1.f1, .string x.f3.f0.f2.f2, .string x.f3.f0.f2.f3, .int .i64 x.f3.f0.f2.f4, .int .i64 x.f3.f0.f2.f5, .int .i64 x.f3.f0.f3.f0, .int .i64 x.f3.f0.f3.f1, .int .i64 x.f3.f0.f3.f2, .int .i64 x.f3.f0.f3.f3, .int .i64 x.f3.f1, .int .i64 x.f3.f2.f0, .bool x.f3.f2.f1, .string x.f3.f2.f2, .int .i64 x.f3.f2.f3, v21], rfl, rfl, ⟨[.int .i64 x.f2], [.int .i64 x.f3.f0.f0, .bool x.f3.f0.f1, .int .i64 x.f3.f0.f2.f0, .int .i64 x.f3.f0.f2.f1.f0, .int .i64 x.f3.f0.f2.f1.f1, .string x.f3.f0.f2.f2, .string x.f3.f0.f2.f3, .int .i64 x.f3.f0.f2.f4, .int .i64 x.f3.f0.f2.f5, .int .i64 x.f3.f0.f3.f0, .int .i64 x.f3.f0.f3.f1, .int .i64 x.f3.f0.f3.f2, .int .i64 x.f3.f0.f3.f3, .int .i64 x.f3.f1, .int .i64 x.f3.f2.f0, .bool x.f3.f2.f1, .string x.f3.f2.f2, .int .i64 x.f3.f2.f3, v21], rfl, rfl, (k34_mkM w base ok x.f3 g21)⟩⟩⟩
theorem k36_openF {W : World} {ok : Nat → Prop} {x : S36} {cs : List Value} (h : Kd.FK k36 W ok x cs) : ∃ A21 c21, cs = [.int .i64 x.f0, .int .i64 x.f1, .int .i64 x.f2, .int .i64 x.f3.f0.f0, .bool x.f3.f0.f1, .int .i64 x.f3.f0.f2.f0, .int .i64 x.f3.f0.f2.f1.f0, .int .i64 x.f3.f0.f2.f1.f1, .string x.f3.f0.f2.f2, .string x.f3.f0.f2.f3, .int .i64 x.f3.f0.f2.f4, .int .i64 x.f3.f0.f2.f5, .int .i64 x.f3.f0.f3.f0, .int .i64 x.f3.f0.f3.f1, .int .i64 x.f3.f0.f3.f2, .int .i64 x.f3.f0.f3.f3, .int .i64 x.f3.f1, .int .i64 x.f3.f2.f0, .bool x.f3.f2.f1, .string x.f3.f2.f2, .int .i64 x.f3.f2.f3, .slice A21 x.f3.f3.length c21] ∧ x.f3.f3.length ≤ c21 ∧ Kd.F k150 W ok A21 x.f3.f3.length x.f3.f3 := by
  obtain ⟨A21, c21, rfl, l21, _⟩ := k36_open (Kd.FK_now h)
  exact ⟨A21, c21, rfl, l21, (fun W' hW => by obtain ⟨A21_, c21_, he, l21_, g21_⟩ := k36_open (h W' hW); injection (Option.some.inj (show some (Value.slice A21 x.f3.f3.length c21) = some (Value.slice A21_ x.f3.f3.length c21_) from congrArg (fun l => l[21]?) he)) with ha_ _ _; rw [ha_]; exact g21_)⟩
theorem k36_mkF (W : World) (ok : Nat → Prop) (x : S36) {A21 : Option Addr} {c21 : Nat} (l21 : x.f3.f3.length ≤ c21) (g21 : Kd.F k150 W ok A21 x.f3.f3.length x.f3.f3) : Kd.FK k36 W ok x [.int .i64 x.f0, .int .i64 x.f1, .int .i64 x.f2, .int .i64 x.f3.f0.f0, .bool x.f3.f0.f1, .int .i64 x.f3.f0.f2.f0, .int .i64 x.f3.f0.f2.f1.f0, .int .i64 x.f3.f0.f2.f1.f1, .string x.f3.f0.f2.f2, .string x.f3.f0.f2.f3, .int .i64 x.f3.f0.f2.f4, .int .i64 x.f3.f0.f2.f5, .int .i64 x.f3.f0.f3.f0, .int .i64 x.f3.f0.f3.f1, .int .i64 x.f3.f0.f3.f2, .int .i64 x.f3.f0.f3.f3, .int .i64 x.f3.f1, .int .i64 x.f3.f2.f0, .bool x.f3.f2.f1, .string x.f3.f2.f2, .int .i64 x.f3.f2.f3, .slice A21 x.f3.f3.length c21] := fun W2 hW => k36_mk W2 x l21 (g21 W2 hW)
def rd_T36 (xs : List S36) (i : Int) : S36 := xs.getD i.toNat z36
theorem at_T36 {w : World} {A : Option Addr} {n : Nat} {xs : List S36} (h : Kd.C k36 w A n xs) (i : Int) (h0 : 0 ≤ i) (h1 : i < n) : ∃ ad A21 c21, A = some ad ∧ w.cell? (ad.add (i.toNat * 22)) = some (.int .i64 (rd_T36 xs i).f0) ∧ w.cell? ⟨(ad.add (i.toNat * 22)).block, (ad.add (i.toNat * 22)).off + 1, none⟩ = some (.int .i64 (rd_T36 xs i).f1) ∧ w.cell? ⟨(ad.add (i.toNat * 22)).block, (ad.add (i.toNat * 22)).off + 2, none⟩ = some (.int .i64 (rd_T36 xs i).f2) ∧ w.cell? ⟨(ad.add (i.toNat * 22)).block, (ad.add (i.toNat * 22)).off + 3, none⟩ = some (.int .i64 (rd_T36 xs i).f3.f0.f0) ∧ w.cell? ⟨(ad.add (i.toNat * 22)).block, (ad.add (i.toNat * 22)).off + 4, none⟩ = some (.bool (rd_T36 xs i).f3.f0.f1) ∧ w.cell? ⟨(ad.add (i.toNat * 22)).block, (ad.add (i.toNat * 22)).off + 5, none⟩ = some (.int .i64 (rd_T36 xs i).f3.f0.f2.f0) ∧ w.cell? ⟨(ad.add (i.toNat * 22)).block, (ad.add (i.toNat * 22)).off + 6, none⟩ = some (.int .i64 (rd_T36 xs i).f3.f0.f2.f1.f0) ∧ w.cell? ⟨(ad.add (i.toNat * 22)).block, (ad.add (i.toNat * 22)).off + 7, none⟩ = some (.int .i64 (rd_T36 xs i).f3.f0.f2.f1.f1) ∧ w.cell? ⟨(ad.add (i.toNat * 22)).block, (ad.add (i.toNat * 22)).off + 8, none⟩ = some (.string (rd_T36 xs i).f3.f0.f2.f2) ∧ w.cell? ⟨(ad.add (i.toNat * 22)).block, (ad.add (i.toNat * 22)).off + 9, none⟩ = some (.string (rd_T36 xs i).f3.f0.f2.f3) ∧ w.cell? ⟨(ad.add (i.toNat * 22)).block, (ad.add (i.toNat * 22)).off + 10, none⟩ = some (.int .i64 (rd_T36 xs i).f3.f0.f2.f4) ∧ w.cell? ⟨(ad.add (i.toNat * 22)).block, (ad.add (i.toNat * 22)).off + 11, none⟩ = some (.int .i64 (rd_T36 xs i).f3.f0.f2.f5) ∧ w.cell? ⟨(ad.add (i.toNat * 22)).block, (ad.add (i.toNat * 22)).off + 12, none⟩ = some (.int .i64 (rd_T36 xs i).f3.f0.f3.f0) ∧ w.cell? ⟨(ad.add (i.toNat * 22)).block, (ad.add (i.toNat * 22)).off + 13, none⟩ = some (.int .i64 (rd_T36 xs i).f3.f0.f3.f1) ∧ w.cell? ⟨(ad.add (i.toNat * 22)).block, (ad.add (i.toNat * 22)).off + 14, none⟩ = some (.int .i64 (rd_T36 xs i).f3.f0.f3.f2) ∧ w.cell? ⟨(ad.add (i.toNat * 22)).block, (ad.add (i.toNat * 22)).off + 15, none⟩ = some (.int .i64 (rd_T36 xs i).f3.f0.f3.f3) ∧ w.cell? ⟨(ad.add (i.toNat * 22)).block, (ad.add (i.toNat * 22)).off + 16, none⟩ = some (.int .i64 (rd_T36 xs i).f3.f1) ∧ w.cell? ⟨(ad.add (i.toNat * 22)).block, (ad.add (i.toNat * 22)).off + 17, none⟩ = some (.int .i64 (rd_T36 xs i).f3.f2.f0) ∧ w.cell? ⟨(ad.add (i.toNat * 22)).block, (ad.add (i.toNat * 22)).off + 18, none⟩ = some (.bool (rd_T36 xs i).f3.f2.f1) ∧ w.cell? ⟨(ad.add (i.toNat * 22)).block, (ad.add (i.toNat * 22)).off + 19, none⟩ = some (.string (rd_T36 xs i).f3.f2.f2) ∧ w.cell? ⟨(ad.add (i.toNat * 22)).block, (ad.add (i.toNat * 22)).off + 20, none⟩ = some (.int .i64 (rd_T36 xs i).f3.f2.f3) ∧ w.cell? ⟨(ad.add (i.toNat * 22)).block, (ad.add (i.toNat * 22)).off + 21, none⟩ = some (.slice A21 (rd_T36 xs i).f3.f3.length c21) ∧ (rd_T36 xs i).f3.f3.length ≤ c21 ∧ k150.C w A21 (rd_T36 xs i).f3.f3.length (rd_T36 xs i).f3.f3 := by
  obtain ⟨ad, c, e, _, hK, hc0⟩ := Kd.C_get h z36 i h0 h1
  have hc : ∀ j u, c[j]? = some u → w.cell? (ad.add (i.toNat * 22 + j)) = some u := hc0
  obtain ⟨A21, c21, rfl, l21, g21⟩ := k36_open hK
  exact ⟨ad, A21, c21, e, hc 0 _ rfl, by rw [← add_field _ _ 1 (by omega)]; exact hc 1 _ rfl, by rw [← add_field _ _ 2 (by omega)]; exact hc 2 _ rfl, by rw [← add_field _ _ 3 (by omega)]; exact hc 3 _ rfl, by rw [← add_field _ _ 4 (by omega)]; exact hc 4 _ rfl, by rw [← add_field _ _ 5 (by omega)]; exact hc 5 _ rfl, by rw [← add_field _ _ 6 (by omega)]; exact hc 6 _ rfl, by rw [← add_field _ _ 7 (by omega)]; exact hc 7 _ rfl, by rw [← add_field _ _ 8 (by omega)]; exact hc 8 _ rfl, by rw [← add_field _ _ 9 (by omega)]; exact hc 9 _ rfl, by rw [← add_field _ _ 10 (by omega)]; exact hc 10 _ rfl, by rw [← add_field _ _ 11 (by omega)]; exact hc 11 _ rfl, by rw [← add_field _ _ 12 (by omega)]; exact hc 12 _ rfl, by rw [← add_field _ _ 13 (by omega)]; exact hc 13 _ rfl, by rw [← add_field _ _ 14 (by omega)]; exact hc 14 _ rfl, by rw [← add_field _ _ 15 (by omega)]; exact hc 15 _ rfl, by rw [← add_field _ _ 16 (by omega)]; exact hc 16 _ rfl, by rw [← add_field _ _ 17 (by omega)]; exact hc 17 _ rfl, by rw [← add_field _ _ 18 (by omega)]; exact hc 18 _ rfl, by rw [← add_field _ _ 19 (by omega)]; exact hc 19 _ rfl, by rw [← add_field _ _ 20 (by omega)]; exact hc 20 _ rfl, by rw [← add_field _ _ 21 (by omega)]; exact hc 21 _ rfl, l21, g21⟩

/-! #### struct type 117 -/
structure S117 where
  f0 : S23
  f1 : ByteArray
  f2 : ByteArray
  f3 : Int
def z117 : S117 := ⟨z23, (⟨#[]⟩ : ByteArray), (⟨#[]⟩ : ByteArray), (0 : Int)⟩
def k117 : Kd S117 := Kd.iso (Kd.pair k23 (Kd.pair Kd.string (Kd.pair Kd.string (Kd.int .i64)))) (fun x : S117 => (x.f0, x.f1, x.f2, x.f3))
theorem k117_open {w : World} {x : S117} {cs : List Value} (h : k117.K w x cs) : cs = [.int .i64 x.f0.f0, .int .i64 x.f0.f1, .string x.f1, .string x.f2, .int .i64 x.f3] := by
  obtain ⟨_, _, rfl, s0, ⟨_, _, rfl, rfl, ⟨_, _, rfl, rfl, rfl⟩⟩⟩ := h
  obtain rfl := k23_open s0
  exact rfl
theorem k117_openM {w : World} {base : Nat} {ok : Nat → Prop} {x : S117} {cs : List Value} (h : k117.M w base ok x cs) : cs = [.int .i64 x.f0.f0, .int .i64 x.f0.f1, .string x.f1, .string x.f2, .int .i64 x.f3] := by
  obtain ⟨_, _, rfl, s0, ⟨_, _, rfl, rfl, ⟨_, _, rfl, rfl, rfl⟩⟩⟩ := h
  obtain rfl := k23_openM s0
  exact rfl
theorem k117_mk (w : World) (x : S117)  : k117.K w x [.int .i64 x.f0.f0, .int .i64 x.f0.f1, .string x.f1, .string x.f2, .int .i64 x.f3] := ⟨[.int .i64 x.f0.f0, .int .i64 x.f0.f1], [.string x.f1, .string x.f2, .int .i64 x.f3], rfl, (k23_mk w x.f0 ), ⟨[.string x.f1], [.string x.f2, .int .i64 x.f3], rfl, rfl, ⟨[.string x.f2], [.int .i64 x.f3], rfl, rfl, rfl⟩⟩⟩
theorem k117_mkM (w : World) (base : Nat) (ok : Nat → Prop) (x : S117)  : k117.M w base ok x [.int .i64 x.f0.f0, .int .i64 x.f0.f1, .string x.f1, .string x.f2, .int .i64 x.f3] := ⟨[.int .i64 x.f0.f0, .int .i64 x.f0.f1], [.string x.f1, .string x.f2, .int .i64 x.f3], rfl, (k23_mkM w base ok x.f0 ), ⟨[.string x.f1], [.string x.f2, .int .i64 x.f3], rfl, rfl, ⟨[.string x.f2], [.int .i64 x.f3], rfl, rfl, rfl⟩⟩⟩
theorem k117_mkF (W : World) (ok : Nat → Prop) (x : S117) : Kd.FK k117 W ok x [.int .i64 x.f0.f0, .int .i64 x.f0.f1, .string x.f1, .string x.f2, .int .i64 x.f3] := fun W2 _ => k117_mk W2 x
def rd_T117 (xs : List S117) (i : Int) : S117 := xs.getD i.toNat z117
theorem at_T117 {w : World} {A : Option Addr} {n : Nat} {xs : List S117} (h : Kd.C k117 w A n xs) (i : Int) (h0 : 0 ≤ i) (h1 : i < n) : ∃ ad , A = some ad ∧ w.cell? (ad.add (i.toNat * 5)) = some (.int .i64 (rd_T117 xs i).f0.f0) ∧ w.cell? ⟨(ad.add (i.toNat * 5)).block, (ad.add (i.toNat * 5)).off + 1, none⟩ = some (.int .i64 (rd_T117 xs i).f0.f1) ∧ w.cell? ⟨(ad.add (i.toNat * 5)).block, (ad.add (i.toNat * 5)).off + 2, none⟩ = some (.string (rd_T117 xs i).f1) ∧ w.cell? ⟨(ad.add (i.toNat * 5)).block, (ad.add (i.toNat * 5)).off + 3, none⟩ = some (.string (rd_T117 xs i).f2) ∧ w.cell? ⟨(ad.add (i.toNat * 5)).block, (ad.add (i.toNat * 5)).off + 4, none⟩ = some (.int .i64 (rd_T117 xs i).f3) := by
  obtain ⟨ad, c, e, _, hK, hc0⟩ := Kd.C_get h z117 i h0 h1
  have hc : ∀ j u, c[j]? = some u → w.cell? (ad.add (i.toNat * 5 + j)) = some u := hc0
  obtain rfl := k117_open hK
  exact ⟨ad, e, hc 0 _ rfl, by rw [← add_field _ _ 1 (by omega)]; exact hc 1 _ rfl, by rw [← add_field _ _ 2 (by omega)]; exact hc 2 _ rfl, by rw [← add_field _ _ 3 (by omega)]; exact hc 3 _ rfl, by rw [← add_field _ _ 4 (by omega)]; exact hc 4 _ rfl⟩

/-! #### struct type 42 -/
structure S42 where
  f0 : Int
  f1 : Int
  f2 : Int
  f3 : Int
def z42 : S42 := ⟨(0 : Int), (0 : Int), (0 : Int), (0 : Int)⟩
def k42 : Kd S42 := Kd.iso (Kd.pair (Kd.int .i64) (Kd.pair (Kd.int .i64) (Kd.pair (Kd.int .i64) (Kd.int .i64)))) (fun x : S42 => (x.f0, x.f1, x.f2, x.f3))
theorem k42_open {w : World} {x : S42} {cs : List Value} (h : k42.K w x cs) : cs = [.int .i64 x.f0, .int .i64 x.f1, .int .i64 x.f2, .int .i64 x.f3] := by
  obtain ⟨_, _, rfl, rfl, ⟨_, _, rfl, rfl, ⟨_, _, rfl, rfl, rfl⟩⟩⟩ := h
  exact rfl
theorem k42_openM {w : World} {base : Nat} {ok : Nat → Prop} {x : S42} {cs : List Value} (h : k42.M w base ok x cs) : cs = [.int .i64 x.f0, .int .i64 x.f1, .int .i64 x.f2, .int .i64 x.f3] := by
  obtain ⟨_, _, rfl, rfl, ⟨_, _, rfl, rfl, ⟨_, _, rfl, rfl, rfl⟩⟩⟩ := h
  exact rfl
theorem k42_mk (w : World) (x : S42)  : k42.K w x [.int .i64 x.f0, .int .i64 x.f1, .int .i64 x.f2, .int .i64 x.f3] := ⟨[.int .i64 x.f0], [.int .i64 x.f1, .int .i64 x.f2, .int .i64 x.f3], rfl, rfl, ⟨[.int .i64 x.f1], [.int .i64 x.f2, .int .i64 x.f3], rfl, rfl, ⟨[.int .i64 x.f2], [.int .i64 x.f3], rfl, rfl, rfl⟩⟩⟩
theorem k42_mkM (w : World) (base : Nat) (ok : Nat → Prop) (x : S42)  : k42.M w base ok x [.int .i64 x.f0, .int .i64 x.f1, .int .i64 x.f2, .int .i64 x.f3] := ⟨[.int .i64 x.f0], [.int .i64 x.f1, .int .i64 x.f2, .int .i64 x.f3], rfl, rfl, ⟨[.int .i64 x.f1], [.int .i64 x.f2, .int .i64 x.f3], rfl, rfl, ⟨[.int .i64 x.f2], [.int .i64 x.f3], rfl, rfl, rfl⟩⟩⟩
theorem k42_mkF (W : World) (ok : Nat → Prop) (x : S42) : Kd.FK k42 W ok x [.int .i64 x.f0, .int .i64 x.f1, .int .i64 x.f2, .int .i64 x.f3] := fun W2 _ => k42_mk W2 x
def rd_T42 (xs : List S42) (i : Int) : S42 := xs.getD i.toNat z42
theorem at_T42 {w : World} {A : Option Addr} {n : Nat} {xs : List S42} (h : Kd.C k42 w A n xs) (i : Int) (h0 : 0 ≤ i) (h1 : i < n) : ∃ ad , A = some ad ∧ w.cell? (ad.add (i.toNat * 4)) = some (.int .i64 (rd_T42 xs i).f0) ∧ w.cell? ⟨(ad.add (i.toNat * 4)).block, (ad.add (i.toNat * 4)).off + 1, none⟩ = some (.int .i64 (rd_T42 xs i).f1) ∧ w.cell? ⟨(ad.add (i.toNat * 4)).block, (ad.add (i.toNat * 4)).off + 2, none⟩ = some (.int .i64 (rd_T42 xs i).f2) ∧ w.cell? ⟨(ad.add (i.toNat * 4)).block, (ad.add (i.toNat * 4)).off + 3, none⟩ = some (.int .i64 (rd_T42 xs i).f3) := by
  obtain ⟨ad, c, e, _, hK, hc0⟩ := Kd.C_get h z42 i h0 h1
  have hc : ∀ j u, c[j]? = some u → w.cell? (ad.add (i.toNat * 4 + j)) = some u := hc0
  obtain rfl := k42_open hK
  exact ⟨ad, e, hc 0 _ rfl, by rw [← add_field _ _ 1 (by omega)]; exact hc 1 _ rfl, by rw [← add_field _ _ 2 (by omega)]; exact hc 2 _ rfl, by rw [← add_field _ _ 3 (by omega)]; exact hc 3 _ rfl⟩

end Go.Proofs.Ytdggiodealhncaa.PHistoryNil
