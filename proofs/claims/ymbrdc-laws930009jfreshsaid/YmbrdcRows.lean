/-
  No cell of these rows narrows 'for every input' (looked for: loops, veiled, ifaces, maps, wideKeys, modest, calm, conditions, laid).
  DERIVED. THE GIVEN ROWS OF THIS SEAT. 11 by the template 'for every input the law returns true; each argument reads behind the call as it read before'; 0 by the template 'total and deterministic' (their statements: YmbrdcTotals.lean).
  GIVEN WITH THE SEED: the statements are not yours to turn. If you find one false, say at which input.
  Laid BY PROGRAM, IN A SANDBOX (cutbox-rows.mjs): the forced cells as the released guide's own fill.sh prints them over the translation 1b8fce8ad822e496… (all of the seat's roots in one cut). By AI agents, Wed Nov 11 2026. No macro, syntax, notation, axiom, sorry.
-/
import Derived.Test.YmbrdcChecked
import GoSem.Claim
import GoSem.ClaimJoined
import GoSem.ClaimMapViews
import Derived.JoinedTies
import Derived.KernelRfl
namespace Go.Proofs.Ymbrdc
/- THE CELL 'sum', in the pinned program and in every row, IS THE sha256 OF THE DUMP (.gsa) THAT YmbrdcProg.lean LOADS. Nothing in Lean hashes anything: it is a label: what it is worth is what the hold of that sum in a sandbox is worth. -/
noncomputable def Ydcm.pinned : Pinned := { name := "ymbrdc", sum := "1b8fce8ad822e496e94ed3b4a68be0acbcf6c3abf4172f91f01fe1b755cc0bb5", checked := Ydcm.checked }
namespace Rows
def none {H : Type} : Left H := { results := [], args := [] }

/-- 'unionfind.LawS930009IGrow': WHATEVER THE INPUT: true; the input reads as it did. -/
def lawS930009IGrowSpec : ChangeSpec := { name := "lawS930009IGrow", fn := fun _ => fun
  | [d1, d2, d3] => { results := [.lit (.bool true)], args := [d1, d2, d3] }
  | _ => none }
def lawS930009IGrowRow : OpenClaim := { program := "ymbrdc", sum := "1b8fce8ad822e496e94ed3b4a68be0acbcf6c3abf4172f91f01fe1b755cc0bb5", func := "example.com/own/unionfind.LawS930009IGrow", spec := "lawS930009IGrow", apart := false }
def LawS930009IGrowSaid : Prop := lawS930009IGrowRow.holds Ydcm.pinned (OpenSpec.ofChange lawS930009IGrowSpec)

/-- ITS FALSE NEIGHBOUR: 'it returns false'. Refute it at one input. -/
def lawS930009IGrowWrong : ChangeSpec := { name := "lawS930009IGrow", fn := fun _ => fun
  | [d1, d2, d3] => { results := [.lit (.bool false)], args := [d1, d2, d3] }
  | _ => none }
def LawS930009IGrowWrongFalsely : Prop := lawS930009IGrowRow.holds Ydcm.pinned (OpenSpec.ofChange lawS930009IGrowWrong)

/-- 'unionfind.LawS930009IJoin': WHATEVER THE INPUT: true; the input reads as it did. -/
def lawS930009IJoinSpec : ChangeSpec := { name := "lawS930009IJoin", fn := fun _ => fun
  | [d1, d2, d3, d4, d5] => { results := [.lit (.bool true)], args := [d1, d2, d3, d4, d5] }
  | _ => none }
def lawS930009IJoinRow : OpenClaim := { program := "ymbrdc", sum := "1b8fce8ad822e496e94ed3b4a68be0acbcf6c3abf4172f91f01fe1b755cc0bb5", func := "example.com/own/unionfind.LawS930009IJoin", spec := "lawS930009IJoin", apart := false }
def LawS930009IJoinSaid : Prop := lawS930009IJoinRow.holds Ydcm.pinned (OpenSpec.ofChange lawS930009IJoinSpec)

/-- ITS FALSE NEIGHBOUR: 'it returns false'. Refute it at one input. -/
def lawS930009IJoinWrong : ChangeSpec := { name := "lawS930009IJoin", fn := fun _ => fun
  | [d1, d2, d3, d4, d5] => { results := [.lit (.bool false)], args := [d1, d2, d3, d4, d5] }
  | _ => none }
def LawS930009IJoinWrongFalsely : Prop := lawS930009IJoinRow.holds Ydcm.pinned (OpenSpec.ofChange lawS930009IJoinWrong)

/-- 'unionfind.LawS930009JModel': WHATEVER THE INPUT: true; the input reads as it did. -/
def lawS930009JModelSpec : ChangeSpec := { name := "lawS930009JModel", fn := fun _ => fun
  | [d1, d2] => { results := [.lit (.bool true)], args := [d1, d2] }
  | _ => none }
def lawS930009JModelRow : OpenClaim := { program := "ymbrdc", sum := "1b8fce8ad822e496e94ed3b4a68be0acbcf6c3abf4172f91f01fe1b755cc0bb5", func := "example.com/own/unionfind.LawS930009JModel", spec := "lawS930009JModel", apart := false }
def LawS930009JModelSaid : Prop := lawS930009JModelRow.holds Ydcm.pinned (OpenSpec.ofChange lawS930009JModelSpec)

/-- ITS FALSE NEIGHBOUR: 'it returns false'. Refute it at one input. -/
def lawS930009JModelWrong : ChangeSpec := { name := "lawS930009JModel", fn := fun _ => fun
  | [d1, d2] => { results := [.lit (.bool false)], args := [d1, d2] }
  | _ => none }
def LawS930009JModelWrongFalsely : Prop := lawS930009JModelRow.holds Ydcm.pinned (OpenSpec.ofChange lawS930009JModelWrong)

/-- 'unionfind.LawS930009JRoundTrip': WHATEVER THE INPUT: true; the input reads as it did. -/
def lawS930009JRoundTripSpec : ChangeSpec := { name := "lawS930009JRoundTrip", fn := fun _ => fun
  | [d] => { results := [.lit (.bool true)], args := [d] }
  | _ => none }
def lawS930009JRoundTripRow : OpenClaim := { program := "ymbrdc", sum := "1b8fce8ad822e496e94ed3b4a68be0acbcf6c3abf4172f91f01fe1b755cc0bb5", func := "example.com/own/unionfind.LawS930009JRoundTrip", spec := "lawS930009JRoundTrip", apart := false }
def LawS930009JRoundTripSaid : Prop := lawS930009JRoundTripRow.holds Ydcm.pinned (OpenSpec.ofChange lawS930009JRoundTripSpec)

/-- ITS FALSE NEIGHBOUR: 'it returns false'. Refute it at one input. -/
def lawS930009JRoundTripWrong : ChangeSpec := { name := "lawS930009JRoundTrip", fn := fun _ => fun
  | [d] => { results := [.lit (.bool false)], args := [d] }
  | _ => none }
def LawS930009JRoundTripWrongFalsely : Prop := lawS930009JRoundTripRow.holds Ydcm.pinned (OpenSpec.ofChange lawS930009JRoundTripWrong)

/-- 'unionfind.LawS930009JFresh': WHATEVER THE INPUT: true; the input reads as it did. -/
def lawS930009JFreshSpec : ChangeSpec := { name := "lawS930009JFresh", fn := fun _ => fun
  | [d1, d2] => { results := [.lit (.bool true)], args := [d1, d2] }
  | _ => none }
def lawS930009JFreshRow : OpenClaim := { program := "ymbrdc", sum := "1b8fce8ad822e496e94ed3b4a68be0acbcf6c3abf4172f91f01fe1b755cc0bb5", func := "example.com/own/unionfind.LawS930009JFresh", spec := "lawS930009JFresh", apart := false }
def LawS930009JFreshSaid : Prop := lawS930009JFreshRow.holds Ydcm.pinned (OpenSpec.ofChange lawS930009JFreshSpec)

/-- ITS FALSE NEIGHBOUR: 'it returns false'. Refute it at one input. -/
def lawS930009JFreshWrong : ChangeSpec := { name := "lawS930009JFresh", fn := fun _ => fun
  | [d1, d2] => { results := [.lit (.bool false)], args := [d1, d2] }
  | _ => none }
def LawS930009JFreshWrongFalsely : Prop := lawS930009JFreshRow.holds Ydcm.pinned (OpenSpec.ofChange lawS930009JFreshWrong)

/-- 'unionfind.LawS930009KForest': WHATEVER THE INPUT: true; the input reads as it did. -/
def lawS930009KForestSpec : ChangeSpec := { name := "lawS930009KForest", fn := fun _ => fun
  | [d] => { results := [.lit (.bool true)], args := [d] }
  | _ => none }
def lawS930009KForestRow : OpenClaim := { program := "ymbrdc", sum := "1b8fce8ad822e496e94ed3b4a68be0acbcf6c3abf4172f91f01fe1b755cc0bb5", func := "example.com/own/unionfind.LawS930009KForest", spec := "lawS930009KForest", apart := false }
def LawS930009KForestSaid : Prop := lawS930009KForestRow.holds Ydcm.pinned (OpenSpec.ofChange lawS930009KForestSpec)

/-- ITS FALSE NEIGHBOUR: 'it returns false'. Refute it at one input. -/
def lawS930009KForestWrong : ChangeSpec := { name := "lawS930009KForest", fn := fun _ => fun
  | [d] => { results := [.lit (.bool false)], args := [d] }
  | _ => none }
def LawS930009KForestWrongFalsely : Prop := lawS930009KForestRow.holds Ydcm.pinned (OpenSpec.ofChange lawS930009KForestWrong)

/-- 'unionfind.LawS930009KDecides': WHATEVER THE INPUT: true; the input reads as it did. -/
def lawS930009KDecidesSpec : ChangeSpec := { name := "lawS930009KDecides", fn := fun _ => fun
  | [d] => { results := [.lit (.bool true)], args := [d] }
  | _ => none }
def lawS930009KDecidesRow : OpenClaim := { program := "ymbrdc", sum := "1b8fce8ad822e496e94ed3b4a68be0acbcf6c3abf4172f91f01fe1b755cc0bb5", func := "example.com/own/unionfind.LawS930009KDecides", spec := "lawS930009KDecides", apart := false }
def LawS930009KDecidesSaid : Prop := lawS930009KDecidesRow.holds Ydcm.pinned (OpenSpec.ofChange lawS930009KDecidesSpec)

/-- ITS FALSE NEIGHBOUR: 'it returns false'. Refute it at one input. -/
def lawS930009KDecidesWrong : ChangeSpec := { name := "lawS930009KDecides", fn := fun _ => fun
  | [d] => { results := [.lit (.bool false)], args := [d] }
  | _ => none }
def LawS930009KDecidesWrongFalsely : Prop := lawS930009KDecidesRow.holds Ydcm.pinned (OpenSpec.ofChange lawS930009KDecidesWrong)

/-- 'unionfind.LawS930009KTweak': WHATEVER THE INPUT: true; the input reads as it did. -/
def lawS930009KTweakSpec : ChangeSpec := { name := "lawS930009KTweak", fn := fun _ => fun
  | [d1, d2, d3] => { results := [.lit (.bool true)], args := [d1, d2, d3] }
  | _ => none }
def lawS930009KTweakRow : OpenClaim := { program := "ymbrdc", sum := "1b8fce8ad822e496e94ed3b4a68be0acbcf6c3abf4172f91f01fe1b755cc0bb5", func := "example.com/own/unionfind.LawS930009KTweak", spec := "lawS930009KTweak", apart := false }
def LawS930009KTweakSaid : Prop := lawS930009KTweakRow.holds Ydcm.pinned (OpenSpec.ofChange lawS930009KTweakSpec)

/-- ITS FALSE NEIGHBOUR: 'it returns false'. Refute it at one input. -/
def lawS930009KTweakWrong : ChangeSpec := { name := "lawS930009KTweak", fn := fun _ => fun
  | [d1, d2, d3] => { results := [.lit (.bool false)], args := [d1, d2, d3] }
  | _ => none }
def LawS930009KTweakWrongFalsely : Prop := lawS930009KTweakRow.holds Ydcm.pinned (OpenSpec.ofChange lawS930009KTweakWrong)

/-- 'unionfind.LawS930009LExact': WHATEVER THE INPUT: true; the input reads as it did. -/
def lawS930009LExactSpec : ChangeSpec := { name := "lawS930009LExact", fn := fun _ => fun
  | [d1, d2, d3] => { results := [.lit (.bool true)], args := [d1, d2, d3] }
  | _ => none }
def lawS930009LExactRow : OpenClaim := { program := "ymbrdc", sum := "1b8fce8ad822e496e94ed3b4a68be0acbcf6c3abf4172f91f01fe1b755cc0bb5", func := "example.com/own/unionfind.LawS930009LExact", spec := "lawS930009LExact", apart := false }
def LawS930009LExactSaid : Prop := lawS930009LExactRow.holds Ydcm.pinned (OpenSpec.ofChange lawS930009LExactSpec)

/-- ITS FALSE NEIGHBOUR: 'it returns false'. Refute it at one input. -/
def lawS930009LExactWrong : ChangeSpec := { name := "lawS930009LExact", fn := fun _ => fun
  | [d1, d2, d3] => { results := [.lit (.bool false)], args := [d1, d2, d3] }
  | _ => none }
def LawS930009LExactWrongFalsely : Prop := lawS930009LExactRow.holds Ydcm.pinned (OpenSpec.ofChange lawS930009LExactWrong)

/-- 'unionfind.LawS930009LApart': WHATEVER THE INPUT: true; the input reads as it did. -/
def lawS930009LApartSpec : ChangeSpec := { name := "lawS930009LApart", fn := fun _ => fun
  | [d1, d2, d3, d4, d5] => { results := [.lit (.bool true)], args := [d1, d2, d3, d4, d5] }
  | _ => none }
def lawS930009LApartRow : OpenClaim := { program := "ymbrdc", sum := "1b8fce8ad822e496e94ed3b4a68be0acbcf6c3abf4172f91f01fe1b755cc0bb5", func := "example.com/own/unionfind.LawS930009LApart", spec := "lawS930009LApart", apart := false }
def LawS930009LApartSaid : Prop := lawS930009LApartRow.holds Ydcm.pinned (OpenSpec.ofChange lawS930009LApartSpec)

/-- ITS FALSE NEIGHBOUR: 'it returns false'. Refute it at one input. -/
def lawS930009LApartWrong : ChangeSpec := { name := "lawS930009LApart", fn := fun _ => fun
  | [d1, d2, d3, d4, d5] => { results := [.lit (.bool false)], args := [d1, d2, d3, d4, d5] }
  | _ => none }
def LawS930009LApartWrongFalsely : Prop := lawS930009LApartRow.holds Ydcm.pinned (OpenSpec.ofChange lawS930009LApartWrong)

/-- 'unionfind.LawS930009LNeutral': WHATEVER THE INPUT: true; the input reads as it did. -/
def lawS930009LNeutralSpec : ChangeSpec := { name := "lawS930009LNeutral", fn := fun _ => fun
  | [d1, d2] => { results := [.lit (.bool true)], args := [d1, d2] }
  | _ => none }
def lawS930009LNeutralRow : OpenClaim := { program := "ymbrdc", sum := "1b8fce8ad822e496e94ed3b4a68be0acbcf6c3abf4172f91f01fe1b755cc0bb5", func := "example.com/own/unionfind.LawS930009LNeutral", spec := "lawS930009LNeutral", apart := false }
def LawS930009LNeutralSaid : Prop := lawS930009LNeutralRow.holds Ydcm.pinned (OpenSpec.ofChange lawS930009LNeutralSpec)

/-- ITS FALSE NEIGHBOUR: 'it returns false'. Refute it at one input. -/
def lawS930009LNeutralWrong : ChangeSpec := { name := "lawS930009LNeutral", fn := fun _ => fun
  | [d1, d2] => { results := [.lit (.bool false)], args := [d1, d2] }
  | _ => none }
def LawS930009LNeutralWrongFalsely : Prop := lawS930009LNeutralRow.holds Ydcm.pinned (OpenSpec.ofChange lawS930009LNeutralWrong)

end Rows
end Go.Proofs.Ymbrdc
