/-
  No cell of these rows narrows 'for every input' (looked for: loops, veiled, ifaces, maps, wideKeys, modest, calm, conditions, laid).
  DERIVED. THE GIVEN ROWS OF THIS SEAT. 12 by the template 'for every input the law returns true; each argument reads behind the call as it read before'; 0 by the template 'total and deterministic' (their statements: YmbrdaTotals.lean).
  GIVEN WITH THE SEED: the statements are not yours to turn. If you find one false, say at which input.
  Laid BY PROGRAM, IN A SANDBOX (cutbox-rows.mjs): the forced cells as the released guide's own fill.sh prints them over the translation 4c84504156847d59… (all of the seat's roots in one cut). By AI agents, Wed Nov 11 2026. No macro, syntax, notation, axiom, sorry.
-/
import Derived.Test.YmbrdaChecked
import GoSem.Claim
import GoSem.ClaimJoined
import GoSem.ClaimMapViews
import Derived.JoinedTies
import Derived.KernelRfl
namespace Go.Proofs.Ymbrda
/- THE CELL 'sum', in the pinned program and in every row, IS THE sha256 OF THE DUMP (.gsa) THAT YmbrdaProg.lean LOADS. Nothing in Lean hashes anything: it is a label: what it is worth is what the hold of that sum in a sandbox is worth. -/
noncomputable def Ydam.pinned : Pinned := { name := "ymbrda", sum := "4c84504156847d59c906a8a4679ff1362a977b44dfdb14c5432ee9f635379c72", checked := Ydam.checked }
namespace Rows
def none {H : Type} : Left H := { results := [], args := [] }

/-- 'unionfind.LawS930009AExact': WHATEVER THE INPUT: true; the input reads as it did. -/
def lawS930009AExactSpec : ChangeSpec := { name := "lawS930009AExact", fn := fun _ => fun
  | [d] => { results := [.lit (.bool true)], args := [d] }
  | _ => none }
def lawS930009AExactRow : OpenClaim := { program := "ymbrda", sum := "4c84504156847d59c906a8a4679ff1362a977b44dfdb14c5432ee9f635379c72", func := "example.com/own/unionfind.LawS930009AExact", spec := "lawS930009AExact", apart := false }
def LawS930009AExactSaid : Prop := lawS930009AExactRow.holds Ydam.pinned (OpenSpec.ofChange lawS930009AExactSpec)

/-- ITS FALSE NEIGHBOUR: 'it returns false'. Refute it at one input. -/
def lawS930009AExactWrong : ChangeSpec := { name := "lawS930009AExact", fn := fun _ => fun
  | [d] => { results := [.lit (.bool false)], args := [d] }
  | _ => none }
def LawS930009AExactWrongFalsely : Prop := lawS930009AExactRow.holds Ydam.pinned (OpenSpec.ofChange lawS930009AExactWrong)

/-- 'unionfind.LawS930009ARefuses': WHATEVER THE INPUT: true; the input reads as it did. -/
def lawS930009ARefusesSpec : ChangeSpec := { name := "lawS930009ARefuses", fn := fun _ => fun
  | [d1, d2] => { results := [.lit (.bool true)], args := [d1, d2] }
  | _ => none }
def lawS930009ARefusesRow : OpenClaim := { program := "ymbrda", sum := "4c84504156847d59c906a8a4679ff1362a977b44dfdb14c5432ee9f635379c72", func := "example.com/own/unionfind.LawS930009ARefuses", spec := "lawS930009ARefuses", apart := false }
def LawS930009ARefusesSaid : Prop := lawS930009ARefusesRow.holds Ydam.pinned (OpenSpec.ofChange lawS930009ARefusesSpec)

/-- ITS FALSE NEIGHBOUR: 'it returns false'. Refute it at one input. -/
def lawS930009ARefusesWrong : ChangeSpec := { name := "lawS930009ARefuses", fn := fun _ => fun
  | [d1, d2] => { results := [.lit (.bool false)], args := [d1, d2] }
  | _ => none }
def LawS930009ARefusesWrongFalsely : Prop := lawS930009ARefusesRow.holds Ydam.pinned (OpenSpec.ofChange lawS930009ARefusesWrong)

/-- 'unionfind.LawS930009AFresh': WHATEVER THE INPUT: true; the input reads as it did. -/
def lawS930009AFreshSpec : ChangeSpec := { name := "lawS930009AFresh", fn := fun _ => fun
  | [d1, d2, d3] => { results := [.lit (.bool true)], args := [d1, d2, d3] }
  | _ => none }
def lawS930009AFreshRow : OpenClaim := { program := "ymbrda", sum := "4c84504156847d59c906a8a4679ff1362a977b44dfdb14c5432ee9f635379c72", func := "example.com/own/unionfind.LawS930009AFresh", spec := "lawS930009AFresh", apart := false }
def LawS930009AFreshSaid : Prop := lawS930009AFreshRow.holds Ydam.pinned (OpenSpec.ofChange lawS930009AFreshSpec)

/-- ITS FALSE NEIGHBOUR: 'it returns false'. Refute it at one input. -/
def lawS930009AFreshWrong : ChangeSpec := { name := "lawS930009AFresh", fn := fun _ => fun
  | [d1, d2, d3] => { results := [.lit (.bool false)], args := [d1, d2, d3] }
  | _ => none }
def LawS930009AFreshWrongFalsely : Prop := lawS930009AFreshRow.holds Ydam.pinned (OpenSpec.ofChange lawS930009AFreshWrong)

/-- 'unionfind.LawS930009BModel': WHATEVER THE INPUT: true; the input reads as it did. -/
def lawS930009BModelSpec : ChangeSpec := { name := "lawS930009BModel", fn := fun _ => fun
  | [d1, d2] => { results := [.lit (.bool true)], args := [d1, d2] }
  | _ => none }
def lawS930009BModelRow : OpenClaim := { program := "ymbrda", sum := "4c84504156847d59c906a8a4679ff1362a977b44dfdb14c5432ee9f635379c72", func := "example.com/own/unionfind.LawS930009BModel", spec := "lawS930009BModel", apart := false }
def LawS930009BModelSaid : Prop := lawS930009BModelRow.holds Ydam.pinned (OpenSpec.ofChange lawS930009BModelSpec)

/-- ITS FALSE NEIGHBOUR: 'it returns false'. Refute it at one input. -/
def lawS930009BModelWrong : ChangeSpec := { name := "lawS930009BModel", fn := fun _ => fun
  | [d1, d2] => { results := [.lit (.bool false)], args := [d1, d2] }
  | _ => none }
def LawS930009BModelWrongFalsely : Prop := lawS930009BModelRow.holds Ydam.pinned (OpenSpec.ofChange lawS930009BModelWrong)

/-- 'unionfind.LawS930009BEffect': WHATEVER THE INPUT: true; the input reads as it did. -/
def lawS930009BEffectSpec : ChangeSpec := { name := "lawS930009BEffect", fn := fun _ => fun
  | [d1, d2, d3, d4, d5] => { results := [.lit (.bool true)], args := [d1, d2, d3, d4, d5] }
  | _ => none }
def lawS930009BEffectRow : OpenClaim := { program := "ymbrda", sum := "4c84504156847d59c906a8a4679ff1362a977b44dfdb14c5432ee9f635379c72", func := "example.com/own/unionfind.LawS930009BEffect", spec := "lawS930009BEffect", apart := false }
def LawS930009BEffectSaid : Prop := lawS930009BEffectRow.holds Ydam.pinned (OpenSpec.ofChange lawS930009BEffectSpec)

/-- ITS FALSE NEIGHBOUR: 'it returns false'. Refute it at one input. -/
def lawS930009BEffectWrong : ChangeSpec := { name := "lawS930009BEffect", fn := fun _ => fun
  | [d1, d2, d3, d4, d5] => { results := [.lit (.bool false)], args := [d1, d2, d3, d4, d5] }
  | _ => none }
def LawS930009BEffectWrongFalsely : Prop := lawS930009BEffectRow.holds Ydam.pinned (OpenSpec.ofChange lawS930009BEffectWrong)

/-- 'unionfind.LawS930009BSwap': WHATEVER THE INPUT: true; the input reads as it did. -/
def lawS930009BSwapSpec : ChangeSpec := { name := "lawS930009BSwap", fn := fun _ => fun
  | [d1, d2, d3, d4, d5] => { results := [.lit (.bool true)], args := [d1, d2, d3, d4, d5] }
  | _ => none }
def lawS930009BSwapRow : OpenClaim := { program := "ymbrda", sum := "4c84504156847d59c906a8a4679ff1362a977b44dfdb14c5432ee9f635379c72", func := "example.com/own/unionfind.LawS930009BSwap", spec := "lawS930009BSwap", apart := false }
def LawS930009BSwapSaid : Prop := lawS930009BSwapRow.holds Ydam.pinned (OpenSpec.ofChange lawS930009BSwapSpec)

/-- ITS FALSE NEIGHBOUR: 'it returns false'. Refute it at one input. -/
def lawS930009BSwapWrong : ChangeSpec := { name := "lawS930009BSwap", fn := fun _ => fun
  | [d1, d2, d3, d4, d5] => { results := [.lit (.bool false)], args := [d1, d2, d3, d4, d5] }
  | _ => none }
def LawS930009BSwapWrongFalsely : Prop := lawS930009BSwapRow.holds Ydam.pinned (OpenSpec.ofChange lawS930009BSwapWrong)

/-- 'unionfind.LawS930009CScript': WHATEVER THE INPUT: true; the input reads as it did. -/
def lawS930009CScriptSpec : ChangeSpec := { name := "lawS930009CScript", fn := fun _ => fun
  | [d1, d2, d3, d4] => { results := [.lit (.bool true)], args := [d1, d2, d3, d4] }
  | _ => none }
def lawS930009CScriptRow : OpenClaim := { program := "ymbrda", sum := "4c84504156847d59c906a8a4679ff1362a977b44dfdb14c5432ee9f635379c72", func := "example.com/own/unionfind.LawS930009CScript", spec := "lawS930009CScript", apart := false }
def LawS930009CScriptSaid : Prop := lawS930009CScriptRow.holds Ydam.pinned (OpenSpec.ofChange lawS930009CScriptSpec)

/-- ITS FALSE NEIGHBOUR: 'it returns false'. Refute it at one input. -/
def lawS930009CScriptWrong : ChangeSpec := { name := "lawS930009CScript", fn := fun _ => fun
  | [d1, d2, d3, d4] => { results := [.lit (.bool false)], args := [d1, d2, d3, d4] }
  | _ => none }
def LawS930009CScriptWrongFalsely : Prop := lawS930009CScriptRow.holds Ydam.pinned (OpenSpec.ofChange lawS930009CScriptWrong)

/-- 'unionfind.LawS930009CLabels': WHATEVER THE INPUT: true; the input reads as it did. -/
def lawS930009CLabelsSpec : ChangeSpec := { name := "lawS930009CLabels", fn := fun _ => fun
  | [d1, d2] => { results := [.lit (.bool true)], args := [d1, d2] }
  | _ => none }
def lawS930009CLabelsRow : OpenClaim := { program := "ymbrda", sum := "4c84504156847d59c906a8a4679ff1362a977b44dfdb14c5432ee9f635379c72", func := "example.com/own/unionfind.LawS930009CLabels", spec := "lawS930009CLabels", apart := false }
def LawS930009CLabelsSaid : Prop := lawS930009CLabelsRow.holds Ydam.pinned (OpenSpec.ofChange lawS930009CLabelsSpec)

/-- ITS FALSE NEIGHBOUR: 'it returns false'. Refute it at one input. -/
def lawS930009CLabelsWrong : ChangeSpec := { name := "lawS930009CLabels", fn := fun _ => fun
  | [d1, d2] => { results := [.lit (.bool false)], args := [d1, d2] }
  | _ => none }
def LawS930009CLabelsWrongFalsely : Prop := lawS930009CLabelsRow.holds Ydam.pinned (OpenSpec.ofChange lawS930009CLabelsWrong)

/-- 'unionfind.LawS930009CUnion': WHATEVER THE INPUT: true; the input reads as it did. -/
def lawS930009CUnionSpec : ChangeSpec := { name := "lawS930009CUnion", fn := fun _ => fun
  | [d1, d2, d3, d4, d5] => { results := [.lit (.bool true)], args := [d1, d2, d3, d4, d5] }
  | _ => none }
def lawS930009CUnionRow : OpenClaim := { program := "ymbrda", sum := "4c84504156847d59c906a8a4679ff1362a977b44dfdb14c5432ee9f635379c72", func := "example.com/own/unionfind.LawS930009CUnion", spec := "lawS930009CUnion", apart := false }
def LawS930009CUnionSaid : Prop := lawS930009CUnionRow.holds Ydam.pinned (OpenSpec.ofChange lawS930009CUnionSpec)

/-- ITS FALSE NEIGHBOUR: 'it returns false'. Refute it at one input. -/
def lawS930009CUnionWrong : ChangeSpec := { name := "lawS930009CUnion", fn := fun _ => fun
  | [d1, d2, d3, d4, d5] => { results := [.lit (.bool false)], args := [d1, d2, d3, d4, d5] }
  | _ => none }
def LawS930009CUnionWrongFalsely : Prop := lawS930009CUnionRow.holds Ydam.pinned (OpenSpec.ofChange lawS930009CUnionWrong)

/-- 'unionfind.LawS930009DExact': WHATEVER THE INPUT: true; the input reads as it did. -/
def lawS930009DExactSpec : ChangeSpec := { name := "lawS930009DExact", fn := fun _ => fun
  | [d1, d2, d3] => { results := [.lit (.bool true)], args := [d1, d2, d3] }
  | _ => none }
def lawS930009DExactRow : OpenClaim := { program := "ymbrda", sum := "4c84504156847d59c906a8a4679ff1362a977b44dfdb14c5432ee9f635379c72", func := "example.com/own/unionfind.LawS930009DExact", spec := "lawS930009DExact", apart := false }
def LawS930009DExactSaid : Prop := lawS930009DExactRow.holds Ydam.pinned (OpenSpec.ofChange lawS930009DExactSpec)

/-- ITS FALSE NEIGHBOUR: 'it returns false'. Refute it at one input. -/
def lawS930009DExactWrong : ChangeSpec := { name := "lawS930009DExact", fn := fun _ => fun
  | [d1, d2, d3] => { results := [.lit (.bool false)], args := [d1, d2, d3] }
  | _ => none }
def LawS930009DExactWrongFalsely : Prop := lawS930009DExactRow.holds Ydam.pinned (OpenSpec.ofChange lawS930009DExactWrong)

/-- 'unionfind.LawS930009DKeeps': WHATEVER THE INPUT: true; the input reads as it did. -/
def lawS930009DKeepsSpec : ChangeSpec := { name := "lawS930009DKeeps", fn := fun _ => fun
  | [d1, d2, d3] => { results := [.lit (.bool true)], args := [d1, d2, d3] }
  | _ => none }
def lawS930009DKeepsRow : OpenClaim := { program := "ymbrda", sum := "4c84504156847d59c906a8a4679ff1362a977b44dfdb14c5432ee9f635379c72", func := "example.com/own/unionfind.LawS930009DKeeps", spec := "lawS930009DKeeps", apart := false }
def LawS930009DKeepsSaid : Prop := lawS930009DKeepsRow.holds Ydam.pinned (OpenSpec.ofChange lawS930009DKeepsSpec)

/-- ITS FALSE NEIGHBOUR: 'it returns false'. Refute it at one input. -/
def lawS930009DKeepsWrong : ChangeSpec := { name := "lawS930009DKeeps", fn := fun _ => fun
  | [d1, d2, d3] => { results := [.lit (.bool false)], args := [d1, d2, d3] }
  | _ => none }
def LawS930009DKeepsWrongFalsely : Prop := lawS930009DKeepsRow.holds Ydam.pinned (OpenSpec.ofChange lawS930009DKeepsWrong)

/-- 'unionfind.LawS930009EExact': WHATEVER THE INPUT: true; the input reads as it did. -/
def lawS930009EExactSpec : ChangeSpec := { name := "lawS930009EExact", fn := fun _ => fun
  | [d1, d2, d3] => { results := [.lit (.bool true)], args := [d1, d2, d3] }
  | _ => none }
def lawS930009EExactRow : OpenClaim := { program := "ymbrda", sum := "4c84504156847d59c906a8a4679ff1362a977b44dfdb14c5432ee9f635379c72", func := "example.com/own/unionfind.LawS930009EExact", spec := "lawS930009EExact", apart := false }
def LawS930009EExactSaid : Prop := lawS930009EExactRow.holds Ydam.pinned (OpenSpec.ofChange lawS930009EExactSpec)

/-- ITS FALSE NEIGHBOUR: 'it returns false'. Refute it at one input. -/
def lawS930009EExactWrong : ChangeSpec := { name := "lawS930009EExact", fn := fun _ => fun
  | [d1, d2, d3] => { results := [.lit (.bool false)], args := [d1, d2, d3] }
  | _ => none }
def LawS930009EExactWrongFalsely : Prop := lawS930009EExactRow.holds Ydam.pinned (OpenSpec.ofChange lawS930009EExactWrong)

end Rows
end Go.Proofs.Ymbrda
