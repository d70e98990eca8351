/-
  No cell of these rows narrows 'for every input' (looked for: loops, veiled, ifaces, maps, wideKeys, modest, calm, conditions, laid).
  DERIVED. THE GIVEN ROWS OF THIS SEAT. 12 by the template 'for every input the law returns true; each argument reads behind the call as it read before'; 0 by the template 'total and deterministic' (their statements: YmbrdbTotals.lean).
  GIVEN WITH THE SEED: the statements are not yours to turn. If you find one false, say at which input.
  Laid BY PROGRAM, IN A SANDBOX (cutbox-rows.mjs): the forced cells as the released guide's own fill.sh prints them over the translation d5e276c596b6b97f… (all of the seat's roots in one cut). By AI agents, Wed Nov 11 2026. No macro, syntax, notation, axiom, sorry.
-/
import Derived.Test.YmbrdbChecked
import GoSem.Claim
import GoSem.ClaimJoined
import GoSem.ClaimMapViews
import Derived.JoinedTies
import Derived.KernelRfl
namespace Go.Proofs.Ymbrdb
/- THE CELL 'sum', in the pinned program and in every row, IS THE sha256 OF THE DUMP (.gsa) THAT YmbrdbProg.lean LOADS. Nothing in Lean hashes anything: it is a label: what it is worth is what the hold of that sum in a sandbox is worth. -/
noncomputable def Ydbm.pinned : Pinned := { name := "ymbrdb", sum := "d5e276c596b6b97f135108d3a8b9856c258a04be8cfcc35a3d27e2cf027cbcef", checked := Ydbm.checked }
namespace Rows
def none {H : Type} : Left H := { results := [], args := [] }

/-- 'unionfind.LawS930009EBuilt': WHATEVER THE INPUT: true; the input reads as it did. -/
def lawS930009EBuiltSpec : ChangeSpec := { name := "lawS930009EBuilt", fn := fun _ => fun
  | [d1, d2] => { results := [.lit (.bool true)], args := [d1, d2] }
  | _ => none }
def lawS930009EBuiltRow : OpenClaim := { program := "ymbrdb", sum := "d5e276c596b6b97f135108d3a8b9856c258a04be8cfcc35a3d27e2cf027cbcef", func := "example.com/own/unionfind.LawS930009EBuilt", spec := "lawS930009EBuilt", apart := false }
def LawS930009EBuiltSaid : Prop := lawS930009EBuiltRow.holds Ydbm.pinned (OpenSpec.ofChange lawS930009EBuiltSpec)

/-- ITS FALSE NEIGHBOUR: 'it returns false'. Refute it at one input. -/
def lawS930009EBuiltWrong : ChangeSpec := { name := "lawS930009EBuilt", fn := fun _ => fun
  | [d1, d2] => { results := [.lit (.bool false)], args := [d1, d2] }
  | _ => none }
def LawS930009EBuiltWrongFalsely : Prop := lawS930009EBuiltRow.holds Ydbm.pinned (OpenSpec.ofChange lawS930009EBuiltWrong)

/-- 'unionfind.LawS930009EEdited': WHATEVER THE INPUT: true; the input reads as it did. -/
def lawS930009EEditedSpec : ChangeSpec := { name := "lawS930009EEdited", fn := fun _ => fun
  | [d1, d2, d3, d4, d5] => { results := [.lit (.bool true)], args := [d1, d2, d3, d4, d5] }
  | _ => none }
def lawS930009EEditedRow : OpenClaim := { program := "ymbrdb", sum := "d5e276c596b6b97f135108d3a8b9856c258a04be8cfcc35a3d27e2cf027cbcef", func := "example.com/own/unionfind.LawS930009EEdited", spec := "lawS930009EEdited", apart := false }
def LawS930009EEditedSaid : Prop := lawS930009EEditedRow.holds Ydbm.pinned (OpenSpec.ofChange lawS930009EEditedSpec)

/-- ITS FALSE NEIGHBOUR: 'it returns false'. Refute it at one input. -/
def lawS930009EEditedWrong : ChangeSpec := { name := "lawS930009EEdited", fn := fun _ => fun
  | [d1, d2, d3, d4, d5] => { results := [.lit (.bool false)], args := [d1, d2, d3, d4, d5] }
  | _ => none }
def LawS930009EEditedWrongFalsely : Prop := lawS930009EEditedRow.holds Ydbm.pinned (OpenSpec.ofChange lawS930009EEditedWrong)

/-- 'unionfind.LawS930009FForest': WHATEVER THE INPUT: true; the input reads as it did. -/
def lawS930009FForestSpec : ChangeSpec := { name := "lawS930009FForest", fn := fun _ => fun
  | [d1, d2] => { results := [.lit (.bool true)], args := [d1, d2] }
  | _ => none }
def lawS930009FForestRow : OpenClaim := { program := "ymbrdb", sum := "d5e276c596b6b97f135108d3a8b9856c258a04be8cfcc35a3d27e2cf027cbcef", func := "example.com/own/unionfind.LawS930009FForest", spec := "lawS930009FForest", apart := false }
def LawS930009FForestSaid : Prop := lawS930009FForestRow.holds Ydbm.pinned (OpenSpec.ofChange lawS930009FForestSpec)

/-- ITS FALSE NEIGHBOUR: 'it returns false'. Refute it at one input. -/
def lawS930009FForestWrong : ChangeSpec := { name := "lawS930009FForest", fn := fun _ => fun
  | [d1, d2] => { results := [.lit (.bool false)], args := [d1, d2] }
  | _ => none }
def LawS930009FForestWrongFalsely : Prop := lawS930009FForestRow.holds Ydbm.pinned (OpenSpec.ofChange lawS930009FForestWrong)

/-- 'unionfind.LawS930009FScript': WHATEVER THE INPUT: true; the input reads as it did. -/
def lawS930009FScriptSpec : ChangeSpec := { name := "lawS930009FScript", fn := fun _ => fun
  | [d1, d2, d3] => { results := [.lit (.bool true)], args := [d1, d2, d3] }
  | _ => none }
def lawS930009FScriptRow : OpenClaim := { program := "ymbrdb", sum := "d5e276c596b6b97f135108d3a8b9856c258a04be8cfcc35a3d27e2cf027cbcef", func := "example.com/own/unionfind.LawS930009FScript", spec := "lawS930009FScript", apart := false }
def LawS930009FScriptSaid : Prop := lawS930009FScriptRow.holds Ydbm.pinned (OpenSpec.ofChange lawS930009FScriptSpec)

/-- ITS FALSE NEIGHBOUR: 'it returns false'. Refute it at one input. -/
def lawS930009FScriptWrong : ChangeSpec := { name := "lawS930009FScript", fn := fun _ => fun
  | [d1, d2, d3] => { results := [.lit (.bool false)], args := [d1, d2, d3] }
  | _ => none }
def LawS930009FScriptWrongFalsely : Prop := lawS930009FScriptRow.holds Ydbm.pinned (OpenSpec.ofChange lawS930009FScriptWrong)

/-- 'unionfind.LawS930009FLabels': WHATEVER THE INPUT: true; the input reads as it did. -/
def lawS930009FLabelsSpec : ChangeSpec := { name := "lawS930009FLabels", fn := fun _ => fun
  | [d1, d2] => { results := [.lit (.bool true)], args := [d1, d2] }
  | _ => none }
def lawS930009FLabelsRow : OpenClaim := { program := "ymbrdb", sum := "d5e276c596b6b97f135108d3a8b9856c258a04be8cfcc35a3d27e2cf027cbcef", func := "example.com/own/unionfind.LawS930009FLabels", spec := "lawS930009FLabels", apart := false }
def LawS930009FLabelsSaid : Prop := lawS930009FLabelsRow.holds Ydbm.pinned (OpenSpec.ofChange lawS930009FLabelsSpec)

/-- ITS FALSE NEIGHBOUR: 'it returns false'. Refute it at one input. -/
def lawS930009FLabelsWrong : ChangeSpec := { name := "lawS930009FLabels", fn := fun _ => fun
  | [d1, d2] => { results := [.lit (.bool false)], args := [d1, d2] }
  | _ => none }
def LawS930009FLabelsWrongFalsely : Prop := lawS930009FLabelsRow.holds Ydbm.pinned (OpenSpec.ofChange lawS930009FLabelsWrong)

/-- 'unionfind.LawS930009GForest': WHATEVER THE INPUT: true; the input reads as it did. -/
def lawS930009GForestSpec : ChangeSpec := { name := "lawS930009GForest", fn := fun _ => fun
  | [d1, d2, d3] => { results := [.lit (.bool true)], args := [d1, d2, d3] }
  | _ => none }
def lawS930009GForestRow : OpenClaim := { program := "ymbrdb", sum := "d5e276c596b6b97f135108d3a8b9856c258a04be8cfcc35a3d27e2cf027cbcef", func := "example.com/own/unionfind.LawS930009GForest", spec := "lawS930009GForest", apart := false }
def LawS930009GForestSaid : Prop := lawS930009GForestRow.holds Ydbm.pinned (OpenSpec.ofChange lawS930009GForestSpec)

/-- ITS FALSE NEIGHBOUR: 'it returns false'. Refute it at one input. -/
def lawS930009GForestWrong : ChangeSpec := { name := "lawS930009GForest", fn := fun _ => fun
  | [d1, d2, d3] => { results := [.lit (.bool false)], args := [d1, d2, d3] }
  | _ => none }
def LawS930009GForestWrongFalsely : Prop := lawS930009GForestRow.holds Ydbm.pinned (OpenSpec.ofChange lawS930009GForestWrong)

/-- 'unionfind.LawS930009GScript': WHATEVER THE INPUT: true; the input reads as it did. -/
def lawS930009GScriptSpec : ChangeSpec := { name := "lawS930009GScript", fn := fun _ => fun
  | [d1, d2] => { results := [.lit (.bool true)], args := [d1, d2] }
  | _ => none }
def lawS930009GScriptRow : OpenClaim := { program := "ymbrdb", sum := "d5e276c596b6b97f135108d3a8b9856c258a04be8cfcc35a3d27e2cf027cbcef", func := "example.com/own/unionfind.LawS930009GScript", spec := "lawS930009GScript", apart := false }
def LawS930009GScriptSaid : Prop := lawS930009GScriptRow.holds Ydbm.pinned (OpenSpec.ofChange lawS930009GScriptSpec)

/-- ITS FALSE NEIGHBOUR: 'it returns false'. Refute it at one input. -/
def lawS930009GScriptWrong : ChangeSpec := { name := "lawS930009GScript", fn := fun _ => fun
  | [d1, d2] => { results := [.lit (.bool false)], args := [d1, d2] }
  | _ => none }
def LawS930009GScriptWrongFalsely : Prop := lawS930009GScriptRow.holds Ydbm.pinned (OpenSpec.ofChange lawS930009GScriptWrong)

/-- 'unionfind.LawS930009GCompress': WHATEVER THE INPUT: true; the input reads as it did. -/
def lawS930009GCompressSpec : ChangeSpec := { name := "lawS930009GCompress", fn := fun _ => fun
  | [d1, d2, d3, d4] => { results := [.lit (.bool true)], args := [d1, d2, d3, d4] }
  | _ => none }
def lawS930009GCompressRow : OpenClaim := { program := "ymbrdb", sum := "d5e276c596b6b97f135108d3a8b9856c258a04be8cfcc35a3d27e2cf027cbcef", func := "example.com/own/unionfind.LawS930009GCompress", spec := "lawS930009GCompress", apart := false }
def LawS930009GCompressSaid : Prop := lawS930009GCompressRow.holds Ydbm.pinned (OpenSpec.ofChange lawS930009GCompressSpec)

/-- ITS FALSE NEIGHBOUR: 'it returns false'. Refute it at one input. -/
def lawS930009GCompressWrong : ChangeSpec := { name := "lawS930009GCompress", fn := fun _ => fun
  | [d1, d2, d3, d4] => { results := [.lit (.bool false)], args := [d1, d2, d3, d4] }
  | _ => none }
def LawS930009GCompressWrongFalsely : Prop := lawS930009GCompressRow.holds Ydbm.pinned (OpenSpec.ofChange lawS930009GCompressWrong)

/-- 'unionfind.LawS930009HScript': WHATEVER THE INPUT: true; the input reads as it did. -/
def lawS930009HScriptSpec : ChangeSpec := { name := "lawS930009HScript", fn := fun _ => fun
  | [d1, d2, d3] => { results := [.lit (.bool true)], args := [d1, d2, d3] }
  | _ => none }
def lawS930009HScriptRow : OpenClaim := { program := "ymbrdb", sum := "d5e276c596b6b97f135108d3a8b9856c258a04be8cfcc35a3d27e2cf027cbcef", func := "example.com/own/unionfind.LawS930009HScript", spec := "lawS930009HScript", apart := false }
def LawS930009HScriptSaid : Prop := lawS930009HScriptRow.holds Ydbm.pinned (OpenSpec.ofChange lawS930009HScriptSpec)

/-- ITS FALSE NEIGHBOUR: 'it returns false'. Refute it at one input. -/
def lawS930009HScriptWrong : ChangeSpec := { name := "lawS930009HScript", fn := fun _ => fun
  | [d1, d2, d3] => { results := [.lit (.bool false)], args := [d1, d2, d3] }
  | _ => none }
def LawS930009HScriptWrongFalsely : Prop := lawS930009HScriptRow.holds Ydbm.pinned (OpenSpec.ofChange lawS930009HScriptWrong)

/-- 'unionfind.LawS930009HLabels': WHATEVER THE INPUT: true; the input reads as it did. -/
def lawS930009HLabelsSpec : ChangeSpec := { name := "lawS930009HLabels", fn := fun _ => fun
  | [d1, d2] => { results := [.lit (.bool true)], args := [d1, d2] }
  | _ => none }
def lawS930009HLabelsRow : OpenClaim := { program := "ymbrdb", sum := "d5e276c596b6b97f135108d3a8b9856c258a04be8cfcc35a3d27e2cf027cbcef", func := "example.com/own/unionfind.LawS930009HLabels", spec := "lawS930009HLabels", apart := false }
def LawS930009HLabelsSaid : Prop := lawS930009HLabelsRow.holds Ydbm.pinned (OpenSpec.ofChange lawS930009HLabelsSpec)

/-- ITS FALSE NEIGHBOUR: 'it returns false'. Refute it at one input. -/
def lawS930009HLabelsWrong : ChangeSpec := { name := "lawS930009HLabels", fn := fun _ => fun
  | [d1, d2] => { results := [.lit (.bool false)], args := [d1, d2] }
  | _ => none }
def LawS930009HLabelsWrongFalsely : Prop := lawS930009HLabelsRow.holds Ydbm.pinned (OpenSpec.ofChange lawS930009HLabelsWrong)

/-- 'unionfind.LawS930009HUnion': WHATEVER THE INPUT: true; the input reads as it did. -/
def lawS930009HUnionSpec : ChangeSpec := { name := "lawS930009HUnion", fn := fun _ => fun
  | [d1, d2, d3, d4, d5] => { results := [.lit (.bool true)], args := [d1, d2, d3, d4, d5] }
  | _ => none }
def lawS930009HUnionRow : OpenClaim := { program := "ymbrdb", sum := "d5e276c596b6b97f135108d3a8b9856c258a04be8cfcc35a3d27e2cf027cbcef", func := "example.com/own/unionfind.LawS930009HUnion", spec := "lawS930009HUnion", apart := false }
def LawS930009HUnionSaid : Prop := lawS930009HUnionRow.holds Ydbm.pinned (OpenSpec.ofChange lawS930009HUnionSpec)

/-- ITS FALSE NEIGHBOUR: 'it returns false'. Refute it at one input. -/
def lawS930009HUnionWrong : ChangeSpec := { name := "lawS930009HUnion", fn := fun _ => fun
  | [d1, d2, d3, d4, d5] => { results := [.lit (.bool false)], args := [d1, d2, d3, d4, d5] }
  | _ => none }
def LawS930009HUnionWrongFalsely : Prop := lawS930009HUnionRow.holds Ydbm.pinned (OpenSpec.ofChange lawS930009HUnionWrong)

/-- 'unionfind.LawS930009IPairs': WHATEVER THE INPUT: true; the input reads as it did. -/
def lawS930009IPairsSpec : ChangeSpec := { name := "lawS930009IPairs", fn := fun _ => fun
  | [d1, d2, d3, d4, d5] => { results := [.lit (.bool true)], args := [d1, d2, d3, d4, d5] }
  | _ => none }
def lawS930009IPairsRow : OpenClaim := { program := "ymbrdb", sum := "d5e276c596b6b97f135108d3a8b9856c258a04be8cfcc35a3d27e2cf027cbcef", func := "example.com/own/unionfind.LawS930009IPairs", spec := "lawS930009IPairs", apart := false }
def LawS930009IPairsSaid : Prop := lawS930009IPairsRow.holds Ydbm.pinned (OpenSpec.ofChange lawS930009IPairsSpec)

/-- ITS FALSE NEIGHBOUR: 'it returns false'. Refute it at one input. -/
def lawS930009IPairsWrong : ChangeSpec := { name := "lawS930009IPairs", fn := fun _ => fun
  | [d1, d2, d3, d4, d5] => { results := [.lit (.bool false)], args := [d1, d2, d3, d4, d5] }
  | _ => none }
def LawS930009IPairsWrongFalsely : Prop := lawS930009IPairsRow.holds Ydbm.pinned (OpenSpec.ofChange lawS930009IPairsWrong)

end Rows
end Go.Proofs.Ymbrdb
