/-
  No cell of these rows narrows 'for every input' (looked for: loops, veiled, ifaces, maps, wideKeys, modest, calm, conditions, laid).
  DERIVED. THE GIVEN ROWS OF THIS SEAT. 7 by the template 'for every input the law returns true; each argument reads behind the call as it read before'; 0 by the template 'total and deterministic' (their statements: YtonkahmofippiaaGreatTotals.lean).
  GIVEN WITH THE SEED: the statements are not yours to turn. If you find one false, say at which input.
  Laid BY PROGRAM, IN A SANDBOX (cutbox-rows.mjs): the forced cells as the released guide's own fill.sh prints them over the translation a8a69b917735f7b7… (all of the seat's roots in one cut). By AI agents, Wed Nov 11 2026. No macro, syntax, notation, axiom, sorry.
-/
import Derived.Test.YtonkahmofippiaaGreatChecked
import GoSem.Claim
import GoSem.ClaimJoined
import GoSem.ClaimMapViews
import Derived.JoinedTies
import Derived.KernelRfl
namespace Go.Proofs.YtonkahmofippiaaGreat
/- THE CELL 'sum', in the pinned program and in every row, IS THE sha256 OF THE DUMP (.gsa) THAT YtonkahmofippiaaGreatProg.lean LOADS. Nothing in Lean hashes anything: it is a label: what it is worth is what the hold of that sum in a sandbox is worth. -/
noncomputable def Tryz.pinned : Pinned := { name := "ytonkahmofippiaagreat", sum := "a8a69b917735f7b70527937bcb66fc406400ea4ec00e10bf0f6fdd12bf22517f", checked := Tryz.checked }
namespace Rows
def none {H : Type} : Left H := { results := [], args := [] }

/-- 'glebelaw15.RouteBad': WHATEVER THE INPUT: true; the input reads as it did. -/
def routeBadSpec : ChangeSpec := { name := "routeBad", fn := fun _ => fun
  | [d1, d2, d3, d4, d5] => { results := [.lit (.bool true)], args := [d1, d2, d3, d4, d5] }
  | _ => none }
def routeBadRow : OpenClaim := { program := "ytonkahmofippiaagreat", sum := "a8a69b917735f7b70527937bcb66fc406400ea4ec00e10bf0f6fdd12bf22517f", func := "glebe/glebelaw15.RouteBad", spec := "routeBad", unfollowed := true, recurses := true, plainKeys := false, apart := false }
def RouteBadSaid : Prop := routeBadRow.holds Tryz.pinned (OpenSpec.ofChange routeBadSpec)

/-- ITS FALSE NEIGHBOUR: 'it returns false'. Refute it at one input. -/
def routeBadWrong : ChangeSpec := { name := "routeBad", fn := fun _ => fun
  | [d1, d2, d3, d4, d5] => { results := [.lit (.bool false)], args := [d1, d2, d3, d4, d5] }
  | _ => none }
def RouteBadWrongFalsely : Prop := routeBadRow.holds Tryz.pinned (OpenSpec.ofChange routeBadWrong)

/-- 'glebelaw14.AtlasPlays': WHATEVER THE INPUT: true; the input reads as it did. -/
def atlasPlaysSpec : ChangeSpec := { name := "atlasPlays", fn := fun _ => fun
  | [d1, d2, d3, d4, d5] => { results := [.lit (.bool true)], args := [d1, d2, d3, d4, d5] }
  | _ => none }
def atlasPlaysRow : OpenClaim := { program := "ytonkahmofippiaagreat", sum := "a8a69b917735f7b70527937bcb66fc406400ea4ec00e10bf0f6fdd12bf22517f", func := "glebe/glebelaw14.AtlasPlays", spec := "atlasPlays", unfollowed := true, recurses := true, plainKeys := false, apart := false }
def AtlasPlaysSaid : Prop := atlasPlaysRow.holds Tryz.pinned (OpenSpec.ofChange atlasPlaysSpec)

/-- ITS FALSE NEIGHBOUR: 'it returns false'. Refute it at one input. -/
def atlasPlaysWrong : ChangeSpec := { name := "atlasPlays", fn := fun _ => fun
  | [d1, d2, d3, d4, d5] => { results := [.lit (.bool false)], args := [d1, d2, d3, d4, d5] }
  | _ => none }
def AtlasPlaysWrongFalsely : Prop := atlasPlaysRow.holds Tryz.pinned (OpenSpec.ofChange atlasPlaysWrong)

/-- 'glebelaw14.AtlasNil': WHATEVER THE INPUT: true; the input reads as it did. -/
def atlasNilSpec : ChangeSpec := { name := "atlasNil", fn := fun _ => fun
  | [d1, d2] => { results := [.lit (.bool true)], args := [d1, d2] }
  | _ => none }
def atlasNilRow : OpenClaim := { program := "ytonkahmofippiaagreat", sum := "a8a69b917735f7b70527937bcb66fc406400ea4ec00e10bf0f6fdd12bf22517f", func := "glebe/glebelaw14.AtlasNil", spec := "atlasNil", unfollowed := true, recurses := true, plainKeys := false, apart := false }
def AtlasNilSaid : Prop := atlasNilRow.holds Tryz.pinned (OpenSpec.ofChange atlasNilSpec)

/-- ITS FALSE NEIGHBOUR: 'it returns false'. Refute it at one input. -/
def atlasNilWrong : ChangeSpec := { name := "atlasNil", fn := fun _ => fun
  | [d1, d2] => { results := [.lit (.bool false)], args := [d1, d2] }
  | _ => none }
def AtlasNilWrongFalsely : Prop := atlasNilRow.holds Tryz.pinned (OpenSpec.ofChange atlasNilWrong)

/-- 'glebelaw16.PlanHeirs': WHATEVER THE INPUT: true; the input reads as it did. -/
def planHeirsSpec : ChangeSpec := { name := "planHeirs", fn := fun _ => fun
  | [d1, d2, d3, d4, d5] => { results := [.lit (.bool true)], args := [d1, d2, d3, d4, d5] }
  | _ => none }
def planHeirsRow : OpenClaim := { program := "ytonkahmofippiaagreat", sum := "a8a69b917735f7b70527937bcb66fc406400ea4ec00e10bf0f6fdd12bf22517f", func := "glebe/glebelaw16.PlanHeirs", spec := "planHeirs", unfollowed := true, recurses := true, plainKeys := false, apart := false }
def PlanHeirsSaid : Prop := planHeirsRow.holds Tryz.pinned (OpenSpec.ofChange planHeirsSpec)

/-- ITS FALSE NEIGHBOUR: 'it returns false'. Refute it at one input. -/
def planHeirsWrong : ChangeSpec := { name := "planHeirs", fn := fun _ => fun
  | [d1, d2, d3, d4, d5] => { results := [.lit (.bool false)], args := [d1, d2, d3, d4, d5] }
  | _ => none }
def PlanHeirsWrongFalsely : Prop := planHeirsRow.holds Tryz.pinned (OpenSpec.ofChange planHeirsWrong)

/-- 'glebelaw16.PlanNil': WHATEVER THE INPUT: true; the input reads as it did. -/
def planNilSpec : ChangeSpec := { name := "planNil", fn := fun _ => fun
  | [d1, d2, d3] => { results := [.lit (.bool true)], args := [d1, d2, d3] }
  | _ => none }
def planNilRow : OpenClaim := { program := "ytonkahmofippiaagreat", sum := "a8a69b917735f7b70527937bcb66fc406400ea4ec00e10bf0f6fdd12bf22517f", func := "glebe/glebelaw16.PlanNil", spec := "planNil", unfollowed := true, recurses := true, plainKeys := false, apart := false }
def PlanNilSaid : Prop := planNilRow.holds Tryz.pinned (OpenSpec.ofChange planNilSpec)

/-- ITS FALSE NEIGHBOUR: 'it returns false'. Refute it at one input. -/
def planNilWrong : ChangeSpec := { name := "planNil", fn := fun _ => fun
  | [d1, d2, d3] => { results := [.lit (.bool false)], args := [d1, d2, d3] }
  | _ => none }
def PlanNilWrongFalsely : Prop := planNilRow.holds Tryz.pinned (OpenSpec.ofChange planNilWrong)

/-- 'glebelaw15.RouteNil': WHATEVER THE INPUT: true; the input reads as it did. -/
def routeNilSpec : ChangeSpec := { name := "routeNil", fn := fun _ => fun
  | [d1, d2] => { results := [.lit (.bool true)], args := [d1, d2] }
  | _ => none }
def routeNilRow : OpenClaim := { program := "ytonkahmofippiaagreat", sum := "a8a69b917735f7b70527937bcb66fc406400ea4ec00e10bf0f6fdd12bf22517f", func := "glebe/glebelaw15.RouteNil", spec := "routeNil", unfollowed := true, recurses := true, plainKeys := false, apart := false }
def RouteNilSaid : Prop := routeNilRow.holds Tryz.pinned (OpenSpec.ofChange routeNilSpec)

/-- ITS FALSE NEIGHBOUR: 'it returns false'. Refute it at one input. -/
def routeNilWrong : ChangeSpec := { name := "routeNil", fn := fun _ => fun
  | [d1, d2] => { results := [.lit (.bool false)], args := [d1, d2] }
  | _ => none }
def RouteNilWrongFalsely : Prop := routeNilRow.holds Tryz.pinned (OpenSpec.ofChange routeNilWrong)

/-- 'glebelaw15.RoutePlays': WHATEVER THE INPUT: true; the input reads as it did. -/
def routePlaysSpec : ChangeSpec := { name := "routePlays", fn := fun _ => fun
  | [d1, d2, d3, d4, d5, d6, d7] => { results := [.lit (.bool true)], args := [d1, d2, d3, d4, d5, d6, d7] }
  | _ => none }
def routePlaysRow : OpenClaim := { program := "ytonkahmofippiaagreat", sum := "a8a69b917735f7b70527937bcb66fc406400ea4ec00e10bf0f6fdd12bf22517f", func := "glebe/glebelaw15.RoutePlays", spec := "routePlays", unfollowed := true, recurses := true, plainKeys := false, apart := false }
def RoutePlaysSaid : Prop := routePlaysRow.holds Tryz.pinned (OpenSpec.ofChange routePlaysSpec)

/-- ITS FALSE NEIGHBOUR: 'it returns false'. Refute it at one input. -/
def routePlaysWrong : ChangeSpec := { name := "routePlays", fn := fun _ => fun
  | [d1, d2, d3, d4, d5, d6, d7] => { results := [.lit (.bool false)], args := [d1, d2, d3, d4, d5, d6, d7] }
  | _ => none }
def RoutePlaysWrongFalsely : Prop := routePlaysRow.holds Tryz.pinned (OpenSpec.ofChange routePlaysWrong)

/- THE SECOND FORM. 'bulk': how many values and letters a reading holds, each counted each time it is reached (what is shared counts as often as it is met; a slice's spare places count too). A statement '..UptoSaid' is the law's where the arguments, and the package variables that the reading takes, are together of bulk at most 1048576: NARROWER than '..Said'. Prove '..Said' where nothing that the law and all that it calls make is longer than what came in: it says more and counts as full. Else prove '..UptoSaid'. A law counts once. -/
mutual
def uptoBulk {H : Type} : DataW H → Nat
  | .lit (.string bytes) => bytes.length + 1
  | .lit _ => 1
  | .nil => 1
  | .ptr d => uptoBulk d + 1
  | .slice elems spare => uptoBulkAll elems + uptoBulkAll spare + 1
  | .agg parts => uptoBulkAll parts + 1
  | .iface _ d => uptoBulk d + 1
  | .map entries => uptoBulkEntries entries + 1
  | .held _ => 1
def uptoBulkAll {H : Type} : List (DataW H) → Nat
  | [] => 0
  | d :: r => uptoBulk d + uptoBulkAll r
def uptoBulkEntries {H : Type} : List (Lit × DataW H) → Nat
  | [] => 0
  | x :: r => uptoBulkEntry x + uptoBulkEntries r
def uptoBulkEntry {H : Type} : Lit × DataW H → Nat
  | (.string bytes, d) => bytes.length + uptoBulk d + 1
  | (_, d) => uptoBulk d + 1
 end
def uptoSmall : (H : Type) → List (DataW H) → Bool := fun _ ds => decide (uptoBulkAll ds ≤ 1048576)
def OpenSpec.upto (s : _root_.Go.ChangeSpec) : _root_.Go.OpenSpec := { _root_.Go.OpenSpec.ofChange s with cond := some uptoSmall }

/-- 'glebelaw15.RouteBad', WHERE WHAT IT READS IS OF BULK AT MOST 1048576: true; the input reads as it did. -/
def routeBadUptoRow : OpenClaim := { program := "ytonkahmofippiaagreat", sum := "a8a69b917735f7b70527937bcb66fc406400ea4ec00e10bf0f6fdd12bf22517f", func := "glebe/glebelaw15.RouteBad", spec := "routeBad", unfollowed := true, recurses := true, plainKeys := false, apart := false, narrowed := true }
def RouteBadUptoSaid : Prop := routeBadUptoRow.holds Tryz.pinned (OpenSpec.upto routeBadSpec)

/-- 'glebelaw14.AtlasPlays', WHERE WHAT IT READS IS OF BULK AT MOST 1048576: true; the input reads as it did. -/
def atlasPlaysUptoRow : OpenClaim := { program := "ytonkahmofippiaagreat", sum := "a8a69b917735f7b70527937bcb66fc406400ea4ec00e10bf0f6fdd12bf22517f", func := "glebe/glebelaw14.AtlasPlays", spec := "atlasPlays", unfollowed := true, recurses := true, plainKeys := false, apart := false, narrowed := true }
def AtlasPlaysUptoSaid : Prop := atlasPlaysUptoRow.holds Tryz.pinned (OpenSpec.upto atlasPlaysSpec)

/-- 'glebelaw14.AtlasNil', WHERE WHAT IT READS IS OF BULK AT MOST 1048576: true; the input reads as it did. -/
def atlasNilUptoRow : OpenClaim := { program := "ytonkahmofippiaagreat", sum := "a8a69b917735f7b70527937bcb66fc406400ea4ec00e10bf0f6fdd12bf22517f", func := "glebe/glebelaw14.AtlasNil", spec := "atlasNil", unfollowed := true, recurses := true, plainKeys := false, apart := false, narrowed := true }
def AtlasNilUptoSaid : Prop := atlasNilUptoRow.holds Tryz.pinned (OpenSpec.upto atlasNilSpec)

/-- 'glebelaw16.PlanHeirs', WHERE WHAT IT READS IS OF BULK AT MOST 1048576: true; the input reads as it did. -/
def planHeirsUptoRow : OpenClaim := { program := "ytonkahmofippiaagreat", sum := "a8a69b917735f7b70527937bcb66fc406400ea4ec00e10bf0f6fdd12bf22517f", func := "glebe/glebelaw16.PlanHeirs", spec := "planHeirs", unfollowed := true, recurses := true, plainKeys := false, apart := false, narrowed := true }
def PlanHeirsUptoSaid : Prop := planHeirsUptoRow.holds Tryz.pinned (OpenSpec.upto planHeirsSpec)

/-- 'glebelaw16.PlanNil', WHERE WHAT IT READS IS OF BULK AT MOST 1048576: true; the input reads as it did. -/
def planNilUptoRow : OpenClaim := { program := "ytonkahmofippiaagreat", sum := "a8a69b917735f7b70527937bcb66fc406400ea4ec00e10bf0f6fdd12bf22517f", func := "glebe/glebelaw16.PlanNil", spec := "planNil", unfollowed := true, recurses := true, plainKeys := false, apart := false, narrowed := true }
def PlanNilUptoSaid : Prop := planNilUptoRow.holds Tryz.pinned (OpenSpec.upto planNilSpec)

/-- 'glebelaw15.RouteNil', WHERE WHAT IT READS IS OF BULK AT MOST 1048576: true; the input reads as it did. -/
def routeNilUptoRow : OpenClaim := { program := "ytonkahmofippiaagreat", sum := "a8a69b917735f7b70527937bcb66fc406400ea4ec00e10bf0f6fdd12bf22517f", func := "glebe/glebelaw15.RouteNil", spec := "routeNil", unfollowed := true, recurses := true, plainKeys := false, apart := false, narrowed := true }
def RouteNilUptoSaid : Prop := routeNilUptoRow.holds Tryz.pinned (OpenSpec.upto routeNilSpec)

/-- 'glebelaw15.RoutePlays', WHERE WHAT IT READS IS OF BULK AT MOST 1048576: true; the input reads as it did. -/
def routePlaysUptoRow : OpenClaim := { program := "ytonkahmofippiaagreat", sum := "a8a69b917735f7b70527937bcb66fc406400ea4ec00e10bf0f6fdd12bf22517f", func := "glebe/glebelaw15.RoutePlays", spec := "routePlays", unfollowed := true, recurses := true, plainKeys := false, apart := false, narrowed := true }
def RoutePlaysUptoSaid : Prop := routePlaysUptoRow.holds Tryz.pinned (OpenSpec.upto routePlaysSpec)

end Rows
end Go.Proofs.YtonkahmofippiaaGreat
