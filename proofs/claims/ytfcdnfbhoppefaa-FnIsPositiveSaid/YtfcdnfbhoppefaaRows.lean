/-
  No cell of these rows narrows 'for every input' (looked for: loops, veiled, ifaces, maps, wideKeys, modest, calm, conditions, laid).
  DERIVED. THE GIVEN ROWS OF THIS SEAT. 9 by the template 'for every input the law returns true; each argument reads behind the call as it read before'; 0 by the template 'total and deterministic' (their statements: YtfcdnfbhoppefaaTotals.lean).
  GIVEN WITH THE SEED: the statements are not yours to turn. If you find one false, say at which input.
  Laid BY PROGRAM, IN A SANDBOX (cutbox-rows.mjs): the forced cells as the released guide's own fill.sh prints them over the translation 000ea127cec56876… (all of the seat's roots in one cut). By AI agents, Wed Nov 11 2026. No macro, syntax, notation, axiom, sorry.
-/
import Derived.Test.YtfcdnfbhoppefaaChecked
import GoSem.Claim
import GoSem.ClaimJoined
import GoSem.ClaimMapViews
import Derived.JoinedTies
import Derived.KernelRfl
namespace Go.Proofs.Ytfcdnfbhoppefaa
/- THE CELL 'sum', in the pinned program and in every row, IS THE sha256 OF THE DUMP (.gsa) THAT YtfcdnfbhoppefaaProg.lean LOADS. Nothing in Lean hashes anything: it is a label: what it is worth is what the hold of that sum in a sandbox is worth. -/
noncomputable def Try.pinned : Pinned := { name := "ytfcdnfbhoppefaa", sum := "000ea127cec56876fc1291b9579dd7571db84355a6e2fca0ea559bbbe458778e", checked := Try.checked }
namespace Rows
def none {H : Type} : Left H := { results := [], args := [] }

/-- 'laws.FnExactValidPoly': WHATEVER THE INPUT: true; the input reads as it did. -/
def fnExactValidPolySpec : ChangeSpec := { name := "fnExactValidPoly", fn := fun _ => fun
  | [d] => { results := [.lit (.bool true)], args := [d] }
  | _ => none }
def fnExactValidPolyRow : OpenClaim := { program := "ytfcdnfbhoppefaa", sum := "000ea127cec56876fc1291b9579dd7571db84355a6e2fca0ea559bbbe458778e", func := "loop.example/dataflow/laws.FnExactValidPoly", spec := "fnExactValidPoly", apart := false }
def FnExactValidPolySaid : Prop := fnExactValidPolyRow.holds Try.pinned (OpenSpec.ofChange fnExactValidPolySpec)

/-- ITS FALSE NEIGHBOUR: 'it returns false'. Refute it at one input. -/
def fnExactValidPolyWrong : ChangeSpec := { name := "fnExactValidPoly", fn := fun _ => fun
  | [d] => { results := [.lit (.bool false)], args := [d] }
  | _ => none }
def FnExactValidPolyWrongFalsely : Prop := fnExactValidPolyRow.holds Try.pinned (OpenSpec.ofChange fnExactValidPolyWrong)

/-- 'laws.FnIsLinear': WHATEVER THE INPUT: true; the input reads as it did. -/
def fnIsLinearSpec : ChangeSpec := { name := "fnIsLinear", fn := fun _ => fun
  | [d] => { results := [.lit (.bool true)], args := [d] }
  | _ => none }
def fnIsLinearRow : OpenClaim := { program := "ytfcdnfbhoppefaa", sum := "000ea127cec56876fc1291b9579dd7571db84355a6e2fca0ea559bbbe458778e", func := "loop.example/dataflow/laws.FnIsLinear", spec := "fnIsLinear", apart := false }
def FnIsLinearSaid : Prop := fnIsLinearRow.holds Try.pinned (OpenSpec.ofChange fnIsLinearSpec)

/-- ITS FALSE NEIGHBOUR: 'it returns false'. Refute it at one input. -/
def fnIsLinearWrong : ChangeSpec := { name := "fnIsLinear", fn := fun _ => fun
  | [d] => { results := [.lit (.bool false)], args := [d] }
  | _ => none }
def FnIsLinearWrongFalsely : Prop := fnIsLinearRow.holds Try.pinned (OpenSpec.ofChange fnIsLinearWrong)

/-- 'laws.FnIsPositive': WHATEVER THE INPUT: true; the input reads as it did. -/
def fnIsPositiveSpec : ChangeSpec := { name := "fnIsPositive", fn := fun _ => fun
  | [d] => { results := [.lit (.bool true)], args := [d] }
  | _ => none }
def fnIsPositiveRow : OpenClaim := { program := "ytfcdnfbhoppefaa", sum := "000ea127cec56876fc1291b9579dd7571db84355a6e2fca0ea559bbbe458778e", func := "loop.example/dataflow/laws.FnIsPositive", spec := "fnIsPositive", apart := false }
def FnIsPositiveSaid : Prop := fnIsPositiveRow.holds Try.pinned (OpenSpec.ofChange fnIsPositiveSpec)

/-- ITS FALSE NEIGHBOUR: 'it returns false'. Refute it at one input. -/
def fnIsPositiveWrong : ChangeSpec := { name := "fnIsPositive", fn := fun _ => fun
  | [d] => { results := [.lit (.bool false)], args := [d] }
  | _ => none }
def FnIsPositiveWrongFalsely : Prop := fnIsPositiveRow.holds Try.pinned (OpenSpec.ofChange fnIsPositiveWrong)

/-- 'laws.FnExactPolyEval': WHATEVER THE INPUT: true; the input reads as it did. -/
def fnExactPolyEvalSpec : ChangeSpec := { name := "fnExactPolyEval", fn := fun _ => fun
  | [d1, d2] => { results := [.lit (.bool true)], args := [d1, d2] }
  | _ => none }
def fnExactPolyEvalRow : OpenClaim := { program := "ytfcdnfbhoppefaa", sum := "000ea127cec56876fc1291b9579dd7571db84355a6e2fca0ea559bbbe458778e", func := "loop.example/dataflow/laws.FnExactPolyEval", spec := "fnExactPolyEval", apart := false }
def FnExactPolyEvalSaid : Prop := fnExactPolyEvalRow.holds Try.pinned (OpenSpec.ofChange fnExactPolyEvalSpec)

/-- ITS FALSE NEIGHBOUR: 'it returns false'. Refute it at one input. -/
def fnExactPolyEvalWrong : ChangeSpec := { name := "fnExactPolyEval", fn := fun _ => fun
  | [d1, d2] => { results := [.lit (.bool false)], args := [d1, d2] }
  | _ => none }
def FnExactPolyEvalWrongFalsely : Prop := fnExactPolyEvalRow.holds Try.pinned (OpenSpec.ofChange fnExactPolyEvalWrong)

/-- 'laws.FnPolyAdd': WHATEVER THE INPUT: true; the input reads as it did. -/
def fnPolyAddSpec : ChangeSpec := { name := "fnPolyAdd", fn := fun _ => fun
  | [d] => { results := [.lit (.bool true)], args := [d] }
  | _ => none }
def fnPolyAddRow : OpenClaim := { program := "ytfcdnfbhoppefaa", sum := "000ea127cec56876fc1291b9579dd7571db84355a6e2fca0ea559bbbe458778e", func := "loop.example/dataflow/laws.FnPolyAdd", spec := "fnPolyAdd", unfollowed := true, recurses := true, apart := false }
def FnPolyAddSaid : Prop := fnPolyAddRow.holds Try.pinned (OpenSpec.ofChange fnPolyAddSpec)

/-- ITS FALSE NEIGHBOUR: 'it returns false'. Refute it at one input. -/
def fnPolyAddWrong : ChangeSpec := { name := "fnPolyAdd", fn := fun _ => fun
  | [d] => { results := [.lit (.bool false)], args := [d] }
  | _ => none }
def FnPolyAddWrongFalsely : Prop := fnPolyAddRow.holds Try.pinned (OpenSpec.ofChange fnPolyAddWrong)

/-- 'laws.FnExactPolyAdd': WHATEVER THE INPUT: true; the input reads as it did. -/
def fnExactPolyAddSpec : ChangeSpec := { name := "fnExactPolyAdd", fn := fun _ => fun
  | [d1, d2] => { results := [.lit (.bool true)], args := [d1, d2] }
  | _ => none }
def fnExactPolyAddRow : OpenClaim := { program := "ytfcdnfbhoppefaa", sum := "000ea127cec56876fc1291b9579dd7571db84355a6e2fca0ea559bbbe458778e", func := "loop.example/dataflow/laws.FnExactPolyAdd", spec := "fnExactPolyAdd", unfollowed := true, recurses := true, apart := false }
def FnExactPolyAddSaid : Prop := fnExactPolyAddRow.holds Try.pinned (OpenSpec.ofChange fnExactPolyAddSpec)

/-- ITS FALSE NEIGHBOUR: 'it returns false'. Refute it at one input. -/
def fnExactPolyAddWrong : ChangeSpec := { name := "fnExactPolyAdd", fn := fun _ => fun
  | [d1, d2] => { results := [.lit (.bool false)], args := [d1, d2] }
  | _ => none }
def FnExactPolyAddWrongFalsely : Prop := fnExactPolyAddRow.holds Try.pinned (OpenSpec.ofChange fnExactPolyAddWrong)

/-- 'laws.FnPolyMul': WHATEVER THE INPUT: true; the input reads as it did. -/
def fnPolyMulSpec : ChangeSpec := { name := "fnPolyMul", fn := fun _ => fun
  | [d1, d2] => { results := [.lit (.bool true)], args := [d1, d2] }
  | _ => none }
def fnPolyMulRow : OpenClaim := { program := "ytfcdnfbhoppefaa", sum := "000ea127cec56876fc1291b9579dd7571db84355a6e2fca0ea559bbbe458778e", func := "loop.example/dataflow/laws.FnPolyMul", spec := "fnPolyMul", unfollowed := true, recurses := true, apart := false }
def FnPolyMulSaid : Prop := fnPolyMulRow.holds Try.pinned (OpenSpec.ofChange fnPolyMulSpec)

/-- ITS FALSE NEIGHBOUR: 'it returns false'. Refute it at one input. -/
def fnPolyMulWrong : ChangeSpec := { name := "fnPolyMul", fn := fun _ => fun
  | [d1, d2] => { results := [.lit (.bool false)], args := [d1, d2] }
  | _ => none }
def FnPolyMulWrongFalsely : Prop := fnPolyMulRow.holds Try.pinned (OpenSpec.ofChange fnPolyMulWrong)

/-- 'laws.FnExactPolyMul': WHATEVER THE INPUT: true; the input reads as it did. -/
def fnExactPolyMulSpec : ChangeSpec := { name := "fnExactPolyMul", fn := fun _ => fun
  | [d1, d2] => { results := [.lit (.bool true)], args := [d1, d2] }
  | _ => none }
def fnExactPolyMulRow : OpenClaim := { program := "ytfcdnfbhoppefaa", sum := "000ea127cec56876fc1291b9579dd7571db84355a6e2fca0ea559bbbe458778e", func := "loop.example/dataflow/laws.FnExactPolyMul", spec := "fnExactPolyMul", unfollowed := true, recurses := true, apart := false }
def FnExactPolyMulSaid : Prop := fnExactPolyMulRow.holds Try.pinned (OpenSpec.ofChange fnExactPolyMulSpec)

/-- ITS FALSE NEIGHBOUR: 'it returns false'. Refute it at one input. -/
def fnExactPolyMulWrong : ChangeSpec := { name := "fnExactPolyMul", fn := fun _ => fun
  | [d1, d2] => { results := [.lit (.bool false)], args := [d1, d2] }
  | _ => none }
def FnExactPolyMulWrongFalsely : Prop := fnExactPolyMulRow.holds Try.pinned (OpenSpec.ofChange fnExactPolyMulWrong)

/-- 'laws.FnPolyEval': WHATEVER THE INPUT: true; the input reads as it did. -/
def fnPolyEvalSpec : ChangeSpec := { name := "fnPolyEval", fn := fun _ => fun
  | [d1, d2] => { results := [.lit (.bool true)], args := [d1, d2] }
  | _ => none }
def fnPolyEvalRow : OpenClaim := { program := "ytfcdnfbhoppefaa", sum := "000ea127cec56876fc1291b9579dd7571db84355a6e2fca0ea559bbbe458778e", func := "loop.example/dataflow/laws.FnPolyEval", spec := "fnPolyEval", unfollowed := true, recurses := true, apart := false }
def FnPolyEvalSaid : Prop := fnPolyEvalRow.holds Try.pinned (OpenSpec.ofChange fnPolyEvalSpec)

/-- ITS FALSE NEIGHBOUR: 'it returns false'. Refute it at one input. -/
def fnPolyEvalWrong : ChangeSpec := { name := "fnPolyEval", fn := fun _ => fun
  | [d1, d2] => { results := [.lit (.bool false)], args := [d1, d2] }
  | _ => none }
def FnPolyEvalWrongFalsely : Prop := fnPolyEvalRow.holds Try.pinned (OpenSpec.ofChange fnPolyEvalWrong)

/- THE SECOND FORM. 'bulk': how many values and letters a reading holds, each counted each time it is reached (what is shared counts as often as it is met; a slice's spare places count too). A statement '..UptoSaid' is the law's where the arguments, and the package variables that the reading takes, are together of bulk at most 1048576: NARROWER than '..Said'. Prove '..Said' where nothing that the law and all that it calls make is longer than what came in: it says more and counts as full. Else prove '..UptoSaid'. A law counts once. -/
mutual
def uptoBulk {H : Type} : DataW H → Nat
  | .lit (.string bytes) => bytes.length + 1
  | .lit _ => 1
  | .nil => 1
  | .ptr d => uptoBulk d + 1
  | .slice elems spare => uptoBulkAll elems + uptoBulkAll spare + 1
  | .agg parts => uptoBulkAll parts + 1
  | .iface _ d => uptoBulk d + 1
  | .map entries => uptoBulkEntries entries + 1
  | .held _ => 1
def uptoBulkAll {H : Type} : List (DataW H) → Nat
  | [] => 0
  | d :: r => uptoBulk d + uptoBulkAll r
def uptoBulkEntries {H : Type} : List (Lit × DataW H) → Nat
  | [] => 0
  | x :: r => uptoBulkEntry x + uptoBulkEntries r
def uptoBulkEntry {H : Type} : Lit × DataW H → Nat
  | (.string bytes, d) => bytes.length + uptoBulk d + 1
  | (_, d) => uptoBulk d + 1
 end
def uptoSmall : (H : Type) → List (DataW H) → Bool := fun _ ds => decide (uptoBulkAll ds ≤ 1048576)
def OpenSpec.upto (s : _root_.Go.ChangeSpec) : _root_.Go.OpenSpec := { _root_.Go.OpenSpec.ofChange s with cond := some uptoSmall }

/-- 'laws.FnExactValidPoly', WHERE WHAT IT READS IS OF BULK AT MOST 1048576: true; the input reads as it did. -/
def fnExactValidPolyUptoRow : OpenClaim := { program := "ytfcdnfbhoppefaa", sum := "000ea127cec56876fc1291b9579dd7571db84355a6e2fca0ea559bbbe458778e", func := "loop.example/dataflow/laws.FnExactValidPoly", spec := "fnExactValidPoly", apart := false, narrowed := true }
def FnExactValidPolyUptoSaid : Prop := fnExactValidPolyUptoRow.holds Try.pinned (OpenSpec.upto fnExactValidPolySpec)

/-- 'laws.FnIsLinear', WHERE WHAT IT READS IS OF BULK AT MOST 1048576: true; the input reads as it did. -/
def fnIsLinearUptoRow : OpenClaim := { program := "ytfcdnfbhoppefaa", sum := "000ea127cec56876fc1291b9579dd7571db84355a6e2fca0ea559bbbe458778e", func := "loop.example/dataflow/laws.FnIsLinear", spec := "fnIsLinear", apart := false, narrowed := true }
def FnIsLinearUptoSaid : Prop := fnIsLinearUptoRow.holds Try.pinned (OpenSpec.upto fnIsLinearSpec)

/-- 'laws.FnIsPositive', WHERE WHAT IT READS IS OF BULK AT MOST 1048576: true; the input reads as it did. -/
def fnIsPositiveUptoRow : OpenClaim := { program := "ytfcdnfbhoppefaa", sum := "000ea127cec56876fc1291b9579dd7571db84355a6e2fca0ea559bbbe458778e", func := "loop.example/dataflow/laws.FnIsPositive", spec := "fnIsPositive", apart := false, narrowed := true }
def FnIsPositiveUptoSaid : Prop := fnIsPositiveUptoRow.holds Try.pinned (OpenSpec.upto fnIsPositiveSpec)

/-- 'laws.FnExactPolyEval', WHERE WHAT IT READS IS OF BULK AT MOST 1048576: true; the input reads as it did. -/
def fnExactPolyEvalUptoRow : OpenClaim := { program := "ytfcdnfbhoppefaa", sum := "000ea127cec56876fc1291b9579dd7571db84355a6e2fca0ea559bbbe458778e", func := "loop.example/dataflow/laws.FnExactPolyEval", spec := "fnExactPolyEval", apart := false, narrowed := true }
def FnExactPolyEvalUptoSaid : Prop := fnExactPolyEvalUptoRow.holds Try.pinned (OpenSpec.upto fnExactPolyEvalSpec)

/-- 'laws.FnPolyAdd', WHERE WHAT IT READS IS OF BULK AT MOST 1048576: true; the input reads as it did. -/
def fnPolyAddUptoRow : OpenClaim := { program := "ytfcdnfbhoppefaa", sum := "000ea127cec56876fc1291b9579dd7571db84355a6e2fca0ea559bbbe458778e", func := "loop.example/dataflow/laws.FnPolyAdd", spec := "fnPolyAdd", unfollowed := true, recurses := true, apart := false, narrowed := true }
def FnPolyAddUptoSaid : Prop := fnPolyAddUptoRow.holds Try.pinned (OpenSpec.upto fnPolyAddSpec)

/-- 'laws.FnExactPolyAdd', WHERE WHAT IT READS IS OF BULK AT MOST 1048576: true; the input reads as it did. -/
def fnExactPolyAddUptoRow : OpenClaim := { program := "ytfcdnfbhoppefaa", sum := "000ea127cec56876fc1291b9579dd7571db84355a6e2fca0ea559bbbe458778e", func := "loop.example/dataflow/laws.FnExactPolyAdd", spec := "fnExactPolyAdd", unfollowed := true, recurses := true, apart := false, narrowed := true }
def FnExactPolyAddUptoSaid : Prop := fnExactPolyAddUptoRow.holds Try.pinned (OpenSpec.upto fnExactPolyAddSpec)

/-- 'laws.FnPolyMul', WHERE WHAT IT READS IS OF BULK AT MOST 1048576: true; the input reads as it did. -/
def fnPolyMulUptoRow : OpenClaim := { program := "ytfcdnfbhoppefaa", sum := "000ea127cec56876fc1291b9579dd7571db84355a6e2fca0ea559bbbe458778e", func := "loop.example/dataflow/laws.FnPolyMul", spec := "fnPolyMul", unfollowed := true, recurses := true, apart := false, narrowed := true }
def FnPolyMulUptoSaid : Prop := fnPolyMulUptoRow.holds Try.pinned (OpenSpec.upto fnPolyMulSpec)

/-- 'laws.FnExactPolyMul', WHERE WHAT IT READS IS OF BULK AT MOST 1048576: true; the input reads as it did. -/
def fnExactPolyMulUptoRow : OpenClaim := { program := "ytfcdnfbhoppefaa", sum := "000ea127cec56876fc1291b9579dd7571db84355a6e2fca0ea559bbbe458778e", func := "loop.example/dataflow/laws.FnExactPolyMul", spec := "fnExactPolyMul", unfollowed := true, recurses := true, apart := false, narrowed := true }
def FnExactPolyMulUptoSaid : Prop := fnExactPolyMulUptoRow.holds Try.pinned (OpenSpec.upto fnExactPolyMulSpec)

/-- 'laws.FnPolyEval', WHERE WHAT IT READS IS OF BULK AT MOST 1048576: true; the input reads as it did. -/
def fnPolyEvalUptoRow : OpenClaim := { program := "ytfcdnfbhoppefaa", sum := "000ea127cec56876fc1291b9579dd7571db84355a6e2fca0ea559bbbe458778e", func := "loop.example/dataflow/laws.FnPolyEval", spec := "fnPolyEval", unfollowed := true, recurses := true, apart := false, narrowed := true }
def FnPolyEvalUptoSaid : Prop := fnPolyEvalUptoRow.holds Try.pinned (OpenSpec.upto fnPolyEvalSpec)

end Rows
end Go.Proofs.Ytfcdnfbhoppefaa
