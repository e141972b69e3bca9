/-
  No cell of these rows narrows 'for every input' (looked for: loops, veiled, ifaces, maps, wideKeys, modest, calm, conditions, laid).
  DERIVED. THE GIVEN ROWS OF THIS SEAT. 6 by the template 'for every input the law returns true; each argument reads behind the call as it read before'; 0 by the template 'total and deterministic' (their statements: YtodoblbekdmjhaaGreatTotals.lean).
  GIVEN WITH THE SEED: the statements are not yours to turn. If you find one false, say at which input.
  Laid BY PROGRAM, IN A SANDBOX (cutbox-rows.mjs): the forced cells as the released guide's own fill.sh prints them over the translation faef2e18a812853f… (all of the seat's roots in one cut). By AI agents, Wed Nov 11 2026. No macro, syntax, notation, axiom, sorry.
-/
import Derived.Test.YtodoblbekdmjhaaGreatChecked
import GoSem.Claim
import GoSem.ClaimJoined
import GoSem.ClaimMapViews
import Derived.JoinedTies
import Derived.KernelRfl
namespace Go.Proofs.YtodoblbekdmjhaaGreat
/- THE CELL 'sum', in the pinned program and in every row, IS THE sha256 OF THE DUMP (.gsa) THAT YtodoblbekdmjhaaGreatProg.lean LOADS. Nothing in Lean hashes anything: it is a label: what it is worth is what the hold of that sum in a sandbox is worth. -/
noncomputable def Tryz.pinned : Pinned := { name := "ytodoblbekdmjhaagreat", sum := "faef2e18a812853fd67fa355d9cfc2f4bdc84cfb0f6f3f01d7d0f4fd1e950b8a", checked := Tryz.checked }
namespace Rows
def none {H : Type} : Left H := { results := [], args := [] }

/-- 'glebelaw08.QuadJoins': WHATEVER THE INPUT: true; the input reads as it did. -/
def quadJoinsSpec : ChangeSpec := { name := "quadJoins", fn := fun _ => fun
  | [d1, d2, d3, d4, d5, d6] => { results := [.lit (.bool true)], args := [d1, d2, d3, d4, d5, d6] }
  | _ => none }
def quadJoinsRow : OpenClaim := { program := "ytodoblbekdmjhaagreat", sum := "faef2e18a812853fd67fa355d9cfc2f4bdc84cfb0f6f3f01d7d0f4fd1e950b8a", func := "glebe/glebelaw08.QuadJoins", spec := "quadJoins", inPlace := ["internal/bytealg.abigen_runtime_cmpstring", "slices.overlaps[glebe/point.Rec]"], unfollowed := true, recurses := true, apart := false }
def QuadJoinsSaid : Prop := quadJoinsRow.holds Tryz.pinned (OpenSpec.ofChange quadJoinsSpec)

/-- ITS FALSE NEIGHBOUR: 'it returns false'. Refute it at one input. -/
def quadJoinsWrong : ChangeSpec := { name := "quadJoins", fn := fun _ => fun
  | [d1, d2, d3, d4, d5, d6] => { results := [.lit (.bool false)], args := [d1, d2, d3, d4, d5, d6] }
  | _ => none }
def QuadJoinsWrongFalsely : Prop := quadJoinsRow.holds Tryz.pinned (OpenSpec.ofChange quadJoinsWrong)

/-- 'glebelaw10.ShelfOnce': WHATEVER THE INPUT: true; the input reads as it did. -/
def shelfOnceSpec : ChangeSpec := { name := "shelfOnce", fn := fun _ => fun
  | [d1, d2, d3, d4] => { results := [.lit (.bool true)], args := [d1, d2, d3, d4] }
  | _ => none }
def shelfOnceRow : OpenClaim := { program := "ytodoblbekdmjhaagreat", sum := "faef2e18a812853fd67fa355d9cfc2f4bdc84cfb0f6f3f01d7d0f4fd1e950b8a", func := "glebe/glebelaw10.ShelfOnce", spec := "shelfOnce", inPlace := ["internal/bytealg.abigen_runtime_cmpstring", "slices.overlaps[glebe/point.Rec]"], unfollowed := true, recurses := true, apart := false }
def ShelfOnceSaid : Prop := shelfOnceRow.holds Tryz.pinned (OpenSpec.ofChange shelfOnceSpec)

/-- ITS FALSE NEIGHBOUR: 'it returns false'. Refute it at one input. -/
def shelfOnceWrong : ChangeSpec := { name := "shelfOnce", fn := fun _ => fun
  | [d1, d2, d3, d4] => { results := [.lit (.bool false)], args := [d1, d2, d3, d4] }
  | _ => none }
def ShelfOnceWrongFalsely : Prop := shelfOnceRow.holds Tryz.pinned (OpenSpec.ofChange shelfOnceWrong)

/-- 'glebelaw10.ShelfPlays': WHATEVER THE INPUT: true; the input reads as it did. -/
def shelfPlaysSpec : ChangeSpec := { name := "shelfPlays", fn := fun _ => fun
  | [d1, d2, d3, d4, d5] => { results := [.lit (.bool true)], args := [d1, d2, d3, d4, d5] }
  | _ => none }
def shelfPlaysRow : OpenClaim := { program := "ytodoblbekdmjhaagreat", sum := "faef2e18a812853fd67fa355d9cfc2f4bdc84cfb0f6f3f01d7d0f4fd1e950b8a", func := "glebe/glebelaw10.ShelfPlays", spec := "shelfPlays", inPlace := ["internal/bytealg.abigen_runtime_cmpstring", "slices.overlaps[glebe/point.Rec]"], unfollowed := true, recurses := true, apart := false }
def ShelfPlaysSaid : Prop := shelfPlaysRow.holds Tryz.pinned (OpenSpec.ofChange shelfPlaysSpec)

/-- ITS FALSE NEIGHBOUR: 'it returns false'. Refute it at one input. -/
def shelfPlaysWrong : ChangeSpec := { name := "shelfPlays", fn := fun _ => fun
  | [d1, d2, d3, d4, d5] => { results := [.lit (.bool false)], args := [d1, d2, d3, d4, d5] }
  | _ => none }
def ShelfPlaysWrongFalsely : Prop := shelfPlaysRow.holds Tryz.pinned (OpenSpec.ofChange shelfPlaysWrong)

/-- 'glebelaw10.ShelfJoins': WHATEVER THE INPUT: true; the input reads as it did. -/
def shelfJoinsSpec : ChangeSpec := { name := "shelfJoins", fn := fun _ => fun
  | [d1, d2, d3, d4] => { results := [.lit (.bool true)], args := [d1, d2, d3, d4] }
  | _ => none }
def shelfJoinsRow : OpenClaim := { program := "ytodoblbekdmjhaagreat", sum := "faef2e18a812853fd67fa355d9cfc2f4bdc84cfb0f6f3f01d7d0f4fd1e950b8a", func := "glebe/glebelaw10.ShelfJoins", spec := "shelfJoins", inPlace := ["internal/bytealg.abigen_runtime_cmpstring", "slices.overlaps[glebe/point.Rec]"], unfollowed := true, recurses := true, apart := false }
def ShelfJoinsSaid : Prop := shelfJoinsRow.holds Tryz.pinned (OpenSpec.ofChange shelfJoinsSpec)

/-- ITS FALSE NEIGHBOUR: 'it returns false'. Refute it at one input. -/
def shelfJoinsWrong : ChangeSpec := { name := "shelfJoins", fn := fun _ => fun
  | [d1, d2, d3, d4] => { results := [.lit (.bool false)], args := [d1, d2, d3, d4] }
  | _ => none }
def ShelfJoinsWrongFalsely : Prop := shelfJoinsRow.holds Tryz.pinned (OpenSpec.ofChange shelfJoinsWrong)

/-- 'glebelaw10.ShelfHalves': WHATEVER THE INPUT: true; the input reads as it did. -/
def shelfHalvesSpec : ChangeSpec := { name := "shelfHalves", fn := fun _ => fun
  | [d1, d2, d3, d4] => { results := [.lit (.bool true)], args := [d1, d2, d3, d4] }
  | _ => none }
def shelfHalvesRow : OpenClaim := { program := "ytodoblbekdmjhaagreat", sum := "faef2e18a812853fd67fa355d9cfc2f4bdc84cfb0f6f3f01d7d0f4fd1e950b8a", func := "glebe/glebelaw10.ShelfHalves", spec := "shelfHalves", inPlace := ["internal/bytealg.abigen_runtime_cmpstring", "slices.overlaps[glebe/point.Rec]"], unfollowed := true, recurses := true, apart := false }
def ShelfHalvesSaid : Prop := shelfHalvesRow.holds Tryz.pinned (OpenSpec.ofChange shelfHalvesSpec)

/-- ITS FALSE NEIGHBOUR: 'it returns false'. Refute it at one input. -/
def shelfHalvesWrong : ChangeSpec := { name := "shelfHalves", fn := fun _ => fun
  | [d1, d2, d3, d4] => { results := [.lit (.bool false)], args := [d1, d2, d3, d4] }
  | _ => none }
def ShelfHalvesWrongFalsely : Prop := shelfHalvesRow.holds Tryz.pinned (OpenSpec.ofChange shelfHalvesWrong)

/-- 'glebelaw10.ShelfNil': WHATEVER THE INPUT: true; the input reads as it did. -/
def shelfNilSpec : ChangeSpec := { name := "shelfNil", fn := fun _ => fun
  | [d1, d2] => { results := [.lit (.bool true)], args := [d1, d2] }
  | _ => none }
def shelfNilRow : OpenClaim := { program := "ytodoblbekdmjhaagreat", sum := "faef2e18a812853fd67fa355d9cfc2f4bdc84cfb0f6f3f01d7d0f4fd1e950b8a", func := "glebe/glebelaw10.ShelfNil", spec := "shelfNil", inPlace := ["internal/bytealg.abigen_runtime_cmpstring", "slices.overlaps[glebe/point.Rec]"], unfollowed := true, recurses := true, apart := false }
def ShelfNilSaid : Prop := shelfNilRow.holds Tryz.pinned (OpenSpec.ofChange shelfNilSpec)

/-- ITS FALSE NEIGHBOUR: 'it returns false'. Refute it at one input. -/
def shelfNilWrong : ChangeSpec := { name := "shelfNil", fn := fun _ => fun
  | [d1, d2] => { results := [.lit (.bool false)], args := [d1, d2] }
  | _ => none }
def ShelfNilWrongFalsely : Prop := shelfNilRow.holds Tryz.pinned (OpenSpec.ofChange shelfNilWrong)

/- THE SECOND FORM. 'bulk': how many values and letters a reading holds, each counted each time it is reached (what is shared counts as often as it is met; a slice's spare places count too). A statement '..UptoSaid' is the law's where the arguments, and the package variables that the reading takes, are together of bulk at most 1048576: NARROWER than '..Said'. Prove '..Said' where nothing that the law and all that it calls make is longer than what came in: it says more and counts as full. Else prove '..UptoSaid'. A law counts once. -/
mutual
def uptoBulk {H : Type} : DataW H → Nat
  | .lit (.string bytes) => bytes.length + 1
  | .lit _ => 1
  | .nil => 1
  | .ptr d => uptoBulk d + 1
  | .slice elems spare => uptoBulkAll elems + uptoBulkAll spare + 1
  | .agg parts => uptoBulkAll parts + 1
  | .iface _ d => uptoBulk d + 1
  | .map entries => uptoBulkEntries entries + 1
  | .held _ => 1
def uptoBulkAll {H : Type} : List (DataW H) → Nat
  | [] => 0
  | d :: r => uptoBulk d + uptoBulkAll r
def uptoBulkEntries {H : Type} : List (Lit × DataW H) → Nat
  | [] => 0
  | x :: r => uptoBulkEntry x + uptoBulkEntries r
def uptoBulkEntry {H : Type} : Lit × DataW H → Nat
  | (.string bytes, d) => bytes.length + uptoBulk d + 1
  | (_, d) => uptoBulk d + 1
 end
def uptoSmall : (H : Type) → List (DataW H) → Bool := fun _ ds => decide (uptoBulkAll ds ≤ 1048576)
def OpenSpec.upto (s : _root_.Go.ChangeSpec) : _root_.Go.OpenSpec := { _root_.Go.OpenSpec.ofChange s with cond := some uptoSmall }

/-- 'glebelaw08.QuadJoins', WHERE WHAT IT READS IS OF BULK AT MOST 1048576: true; the input reads as it did. -/
def quadJoinsUptoRow : OpenClaim := { program := "ytodoblbekdmjhaagreat", sum := "faef2e18a812853fd67fa355d9cfc2f4bdc84cfb0f6f3f01d7d0f4fd1e950b8a", func := "glebe/glebelaw08.QuadJoins", spec := "quadJoins", inPlace := ["internal/bytealg.abigen_runtime_cmpstring", "slices.overlaps[glebe/point.Rec]"], unfollowed := true, recurses := true, apart := false, narrowed := true }
def QuadJoinsUptoSaid : Prop := quadJoinsUptoRow.holds Tryz.pinned (OpenSpec.upto quadJoinsSpec)

/-- 'glebelaw10.ShelfOnce', WHERE WHAT IT READS IS OF BULK AT MOST 1048576: true; the input reads as it did. -/
def shelfOnceUptoRow : OpenClaim := { program := "ytodoblbekdmjhaagreat", sum := "faef2e18a812853fd67fa355d9cfc2f4bdc84cfb0f6f3f01d7d0f4fd1e950b8a", func := "glebe/glebelaw10.ShelfOnce", spec := "shelfOnce", inPlace := ["internal/bytealg.abigen_runtime_cmpstring", "slices.overlaps[glebe/point.Rec]"], unfollowed := true, recurses := true, apart := false, narrowed := true }
def ShelfOnceUptoSaid : Prop := shelfOnceUptoRow.holds Tryz.pinned (OpenSpec.upto shelfOnceSpec)

/-- 'glebelaw10.ShelfPlays', WHERE WHAT IT READS IS OF BULK AT MOST 1048576: true; the input reads as it did. -/
def shelfPlaysUptoRow : OpenClaim := { program := "ytodoblbekdmjhaagreat", sum := "faef2e18a812853fd67fa355d9cfc2f4bdc84cfb0f6f3f01d7d0f4fd1e950b8a", func := "glebe/glebelaw10.ShelfPlays", spec := "shelfPlays", inPlace := ["internal/bytealg.abigen_runtime_cmpstring", "slices.overlaps[glebe/point.Rec]"], unfollowed := true, recurses := true, apart := false, narrowed := true }
def ShelfPlaysUptoSaid : Prop := shelfPlaysUptoRow.holds Tryz.pinned (OpenSpec.upto shelfPlaysSpec)

/-- 'glebelaw10.ShelfJoins', WHERE WHAT IT READS IS OF BULK AT MOST 1048576: true; the input reads as it did. -/
def shelfJoinsUptoRow : OpenClaim := { program := "ytodoblbekdmjhaagreat", sum := "faef2e18a812853fd67fa355d9cfc2f4bdc84cfb0f6f3f01d7d0f4fd1e950b8a", func := "glebe/glebelaw10.ShelfJoins", spec := "shelfJoins", inPlace := ["internal/bytealg.abigen_runtime_cmpstring", "slices.overlaps[glebe/point.Rec]"], unfollowed := true, recurses := true, apart := false, narrowed := true }
def ShelfJoinsUptoSaid : Prop := shelfJoinsUptoRow.holds Tryz.pinned (OpenSpec.upto shelfJoinsSpec)

/-- 'glebelaw10.ShelfHalves', WHERE WHAT IT READS IS OF BULK AT MOST 1048576: true; the input reads as it did. -/
def shelfHalvesUptoRow : OpenClaim := { program := "ytodoblbekdmjhaagreat", sum := "faef2e18a812853fd67fa355d9cfc2f4bdc84cfb0f6f3f01d7d0f4fd1e950b8a", func := "glebe/glebelaw10.ShelfHalves", spec := "shelfHalves", inPlace := ["internal/bytealg.abigen_runtime_cmpstring", "slices.overlaps[glebe/point.Rec]"], unfollowed := true, recurses := true, apart := false, narrowed := true }
def ShelfHalvesUptoSaid : Prop := shelfHalvesUptoRow.holds Tryz.pinned (OpenSpec.upto shelfHalvesSpec)

/-- 'glebelaw10.ShelfNil', WHERE WHAT IT READS IS OF BULK AT MOST 1048576: true; the input reads as it did. -/
def shelfNilUptoRow : OpenClaim := { program := "ytodoblbekdmjhaagreat", sum := "faef2e18a812853fd67fa355d9cfc2f4bdc84cfb0f6f3f01d7d0f4fd1e950b8a", func := "glebe/glebelaw10.ShelfNil", spec := "shelfNil", inPlace := ["internal/bytealg.abigen_runtime_cmpstring", "slices.overlaps[glebe/point.Rec]"], unfollowed := true, recurses := true, apart := false, narrowed := true }
def ShelfNilUptoSaid : Prop := shelfNilUptoRow.holds Tryz.pinned (OpenSpec.upto shelfNilSpec)

end Rows
end Go.Proofs.YtodoblbekdmjhaaGreat
