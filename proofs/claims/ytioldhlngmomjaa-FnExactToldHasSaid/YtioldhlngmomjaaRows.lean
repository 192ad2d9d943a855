/-
  No cell of these rows narrows 'for every input' (looked for: loops, veiled, ifaces, maps, wideKeys, modest, calm, conditions, laid).
  DERIVED. THE GIVEN ROWS OF THIS SEAT. 3 by the template 'for every input the law returns true; each argument reads behind the call as it read before'; 0 by the template 'total and deterministic' (their statements: YtioldhlngmomjaaTotals.lean).
  GIVEN WITH THE SEED: the statements are not yours to turn. If you find one false, say at which input.
  Laid BY PROGRAM, IN A SANDBOX (cutbox-rows.mjs): the forced cells as the released guide's own fill.sh prints them over the translation fccc9a17283255c3… (all of the seat's roots in one cut). By AI agents, Wed Nov 11 2026. No macro, syntax, notation, axiom, sorry.
-/
import Derived.Test.YtioldhlngmomjaaChecked
import GoSem.Claim
import GoSem.ClaimJoined
import GoSem.ClaimMapViews
import Derived.JoinedTies
import Derived.KernelRfl
namespace Go.Proofs.Ytioldhlngmomjaa
/- THE CELL 'sum', in the pinned program and in every row, IS THE sha256 OF THE DUMP (.gsa) THAT YtioldhlngmomjaaProg.lean LOADS. Nothing in Lean hashes anything: it is a label: what it is worth is what the hold of that sum in a sandbox is worth. -/
noncomputable def Try.pinned : Pinned := { name := "ytioldhlngmomjaa", sum := "fccc9a17283255c3f1c73f7fc49686d456de613595e4509560fef54d06be55a9", checked := Try.checked }
namespace Rows
def none {H : Type} : Left H := { results := [], args := [] }

/-- 'laws.FnExactToldHas': WHATEVER THE INPUT: true; the input reads as it did. -/
def fnExactToldHasSpec : ChangeSpec := { name := "fnExactToldHas", fn := fun _ => fun
  | [d1, d2, d3] => { results := [.lit (.bool true)], args := [d1, d2, d3] }
  | _ => none }
def fnExactToldHasRow : OpenClaim := { program := "ytioldhlngmomjaa", sum := "fccc9a17283255c3f1c73f7fc49686d456de613595e4509560fef54d06be55a9", func := "loop.example/shieling/laws.FnExactToldHas", spec := "fnExactToldHas", apart := false }
def FnExactToldHasSaid : Prop := fnExactToldHasRow.holds Try.pinned (OpenSpec.ofChange fnExactToldHasSpec)

/-- ITS FALSE NEIGHBOUR: 'it returns false'. Refute it at one input. -/
def fnExactToldHasWrong : ChangeSpec := { name := "fnExactToldHas", fn := fun _ => fun
  | [d1, d2, d3] => { results := [.lit (.bool false)], args := [d1, d2, d3] }
  | _ => none }
def FnExactToldHasWrongFalsely : Prop := fnExactToldHasRow.holds Try.pinned (OpenSpec.ofChange fnExactToldHasWrong)

/-- 'laws.FnExactWalkMany': WHATEVER THE INPUT: true; the input reads as it did. -/
def fnExactWalkManySpec : ChangeSpec := { name := "fnExactWalkMany", fn := fun _ => fun
  | [d1, d2] => { results := [.lit (.bool true)], args := [d1, d2] }
  | _ => none }
def fnExactWalkManyRow : OpenClaim := { program := "ytioldhlngmomjaa", sum := "fccc9a17283255c3f1c73f7fc49686d456de613595e4509560fef54d06be55a9", func := "loop.example/shieling/laws.FnExactWalkMany", spec := "fnExactWalkMany", recurses := true, apart := false }
def FnExactWalkManySaid : Prop := fnExactWalkManyRow.holds Try.pinned (OpenSpec.ofChange fnExactWalkManySpec)

/-- ITS FALSE NEIGHBOUR: 'it returns false'. Refute it at one input. -/
def fnExactWalkManyWrong : ChangeSpec := { name := "fnExactWalkMany", fn := fun _ => fun
  | [d1, d2] => { results := [.lit (.bool false)], args := [d1, d2] }
  | _ => none }
def FnExactWalkManyWrongFalsely : Prop := fnExactWalkManyRow.holds Try.pinned (OpenSpec.ofChange fnExactWalkManyWrong)

/-- 'laws.FnExactWalkDepth': WHATEVER THE INPUT: true; the input reads as it did. -/
def fnExactWalkDepthSpec : ChangeSpec := { name := "fnExactWalkDepth", fn := fun _ => fun
  | [d1, d2] => { results := [.lit (.bool true)], args := [d1, d2] }
  | _ => none }
def fnExactWalkDepthRow : OpenClaim := { program := "ytioldhlngmomjaa", sum := "fccc9a17283255c3f1c73f7fc49686d456de613595e4509560fef54d06be55a9", func := "loop.example/shieling/laws.FnExactWalkDepth", spec := "fnExactWalkDepth", recurses := true, apart := false }
def FnExactWalkDepthSaid : Prop := fnExactWalkDepthRow.holds Try.pinned (OpenSpec.ofChange fnExactWalkDepthSpec)

/-- ITS FALSE NEIGHBOUR: 'it returns false'. Refute it at one input. -/
def fnExactWalkDepthWrong : ChangeSpec := { name := "fnExactWalkDepth", fn := fun _ => fun
  | [d1, d2] => { results := [.lit (.bool false)], args := [d1, d2] }
  | _ => none }
def FnExactWalkDepthWrongFalsely : Prop := fnExactWalkDepthRow.holds Try.pinned (OpenSpec.ofChange fnExactWalkDepthWrong)

/- THE SECOND FORM. 'bulk': how many values and letters a reading holds, each counted each time it is reached (what is shared counts as often as it is met; a slice's spare places count too). A statement '..UptoSaid' is the law's where the arguments, and the package variables that the reading takes, are together of bulk at most 1048576: NARROWER than '..Said'. Prove '..Said' where nothing that the law and all that it calls make is longer than what came in: it says more and counts as full. Else prove '..UptoSaid'. A law counts once. -/
mutual
def uptoBulk {H : Type} : DataW H → Nat
  | .lit (.string bytes) => bytes.length + 1
  | .lit _ => 1
  | .nil => 1
  | .ptr d => uptoBulk d + 1
  | .slice elems spare => uptoBulkAll elems + uptoBulkAll spare + 1
  | .agg parts => uptoBulkAll parts + 1
  | .iface _ d => uptoBulk d + 1
  | .map entries => uptoBulkEntries entries + 1
  | .held _ => 1
def uptoBulkAll {H : Type} : List (DataW H) → Nat
  | [] => 0
  | d :: r => uptoBulk d + uptoBulkAll r
def uptoBulkEntries {H : Type} : List (Lit × DataW H) → Nat
  | [] => 0
  | x :: r => uptoBulkEntry x + uptoBulkEntries r
def uptoBulkEntry {H : Type} : Lit × DataW H → Nat
  | (.string bytes, d) => bytes.length + uptoBulk d + 1
  | (_, d) => uptoBulk d + 1
 end
def uptoSmall : (H : Type) → List (DataW H) → Bool := fun _ ds => decide (uptoBulkAll ds ≤ 1048576)
def OpenSpec.upto (s : _root_.Go.ChangeSpec) : _root_.Go.OpenSpec := { _root_.Go.OpenSpec.ofChange s with cond := some uptoSmall }

/-- 'laws.FnExactToldHas', WHERE WHAT IT READS IS OF BULK AT MOST 1048576: true; the input reads as it did. -/
def fnExactToldHasUptoRow : OpenClaim := { program := "ytioldhlngmomjaa", sum := "fccc9a17283255c3f1c73f7fc49686d456de613595e4509560fef54d06be55a9", func := "loop.example/shieling/laws.FnExactToldHas", spec := "fnExactToldHas", apart := false, narrowed := true }
def FnExactToldHasUptoSaid : Prop := fnExactToldHasUptoRow.holds Try.pinned (OpenSpec.upto fnExactToldHasSpec)

/-- 'laws.FnExactWalkMany', WHERE WHAT IT READS IS OF BULK AT MOST 1048576: true; the input reads as it did. -/
def fnExactWalkManyUptoRow : OpenClaim := { program := "ytioldhlngmomjaa", sum := "fccc9a17283255c3f1c73f7fc49686d456de613595e4509560fef54d06be55a9", func := "loop.example/shieling/laws.FnExactWalkMany", spec := "fnExactWalkMany", recurses := true, apart := false, narrowed := true }
def FnExactWalkManyUptoSaid : Prop := fnExactWalkManyUptoRow.holds Try.pinned (OpenSpec.upto fnExactWalkManySpec)

/-- 'laws.FnExactWalkDepth', WHERE WHAT IT READS IS OF BULK AT MOST 1048576: true; the input reads as it did. -/
def fnExactWalkDepthUptoRow : OpenClaim := { program := "ytioldhlngmomjaa", sum := "fccc9a17283255c3f1c73f7fc49686d456de613595e4509560fef54d06be55a9", func := "loop.example/shieling/laws.FnExactWalkDepth", spec := "fnExactWalkDepth", recurses := true, apart := false, narrowed := true }
def FnExactWalkDepthUptoSaid : Prop := fnExactWalkDepthUptoRow.holds Try.pinned (OpenSpec.upto fnExactWalkDepthSpec)

end Rows
end Go.Proofs.Ytioldhlngmomjaa
