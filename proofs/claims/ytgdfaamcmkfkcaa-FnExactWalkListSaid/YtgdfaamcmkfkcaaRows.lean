/-
  No cell of these rows narrows 'for every input' (looked for: loops, veiled, ifaces, maps, wideKeys, modest, calm, conditions, laid).
  DERIVED. THE GIVEN ROWS OF THIS SEAT. 6 by the template 'for every input the law returns true; each argument reads behind the call as it read before'; 0 by the template 'total and deterministic' (their statements: YtgdfaamcmkfkcaaTotals.lean).
  GIVEN WITH THE SEED: the statements are not yours to turn. If you find one false, say at which input.
  Laid BY PROGRAM, IN A SANDBOX (cutbox-rows.mjs): the forced cells as the released guide's own fill.sh prints them over the translation 519ae0f987536cb0… (all of the seat's roots in one cut). By AI agents, Wed Nov 11 2026. No macro, syntax, notation, axiom, sorry.
-/
import Derived.Test.YtgdfaamcmkfkcaaChecked
import GoSem.Claim
import GoSem.ClaimJoined
import GoSem.ClaimMapViews
import Derived.JoinedTies
import Derived.KernelRfl
namespace Go.Proofs.Ytgdfaamcmkfkcaa
/- THE CELL 'sum', in the pinned program and in every row, IS THE sha256 OF THE DUMP (.gsa) THAT YtgdfaamcmkfkcaaProg.lean LOADS. Nothing in Lean hashes anything: it is a label: what it is worth is what the hold of that sum in a sandbox is worth. -/
noncomputable def Try.pinned : Pinned := { name := "ytgdfaamcmkfkcaa", sum := "519ae0f987536cb01598f4179e1e79202a3f9929dfb3bd966be79f026f979202", checked := Try.checked }
namespace Rows
def none {H : Type} : Left H := { results := [], args := [] }

/-- 'laws.FnExactWalkMany': WHATEVER THE INPUT: true; the input reads as it did. -/
def fnExactWalkManySpec : ChangeSpec := { name := "fnExactWalkMany", fn := fun _ => fun
  | [d1, d2] => { results := [.lit (.bool true)], args := [d1, d2] }
  | _ => none }
def fnExactWalkManyRow : OpenClaim := { program := "ytgdfaamcmkfkcaa", sum := "519ae0f987536cb01598f4179e1e79202a3f9929dfb3bd966be79f026f979202", func := "loop.example/shieling/laws.FnExactWalkMany", spec := "fnExactWalkMany", recurses := true, apart := false }
def FnExactWalkManySaid : Prop := fnExactWalkManyRow.holds Try.pinned (OpenSpec.ofChange fnExactWalkManySpec)

/-- ITS FALSE NEIGHBOUR: 'it returns false'. Refute it at one input. -/
def fnExactWalkManyWrong : ChangeSpec := { name := "fnExactWalkMany", fn := fun _ => fun
  | [d1, d2] => { results := [.lit (.bool false)], args := [d1, d2] }
  | _ => none }
def FnExactWalkManyWrongFalsely : Prop := fnExactWalkManyRow.holds Try.pinned (OpenSpec.ofChange fnExactWalkManyWrong)

/-- 'laws.FnExactWalkDepth': WHATEVER THE INPUT: true; the input reads as it did. -/
def fnExactWalkDepthSpec : ChangeSpec := { name := "fnExactWalkDepth", fn := fun _ => fun
  | [d1, d2] => { results := [.lit (.bool true)], args := [d1, d2] }
  | _ => none }
def fnExactWalkDepthRow : OpenClaim := { program := "ytgdfaamcmkfkcaa", sum := "519ae0f987536cb01598f4179e1e79202a3f9929dfb3bd966be79f026f979202", func := "loop.example/shieling/laws.FnExactWalkDepth", spec := "fnExactWalkDepth", recurses := true, apart := false }
def FnExactWalkDepthSaid : Prop := fnExactWalkDepthRow.holds Try.pinned (OpenSpec.ofChange fnExactWalkDepthSpec)

/-- ITS FALSE NEIGHBOUR: 'it returns false'. Refute it at one input. -/
def fnExactWalkDepthWrong : ChangeSpec := { name := "fnExactWalkDepth", fn := fun _ => fun
  | [d1, d2] => { results := [.lit (.bool false)], args := [d1, d2] }
  | _ => none }
def FnExactWalkDepthWrongFalsely : Prop := fnExactWalkDepthRow.holds Try.pinned (OpenSpec.ofChange fnExactWalkDepthWrong)

/-- 'laws.FnExactMendName': WHATEVER THE INPUT: true; the input reads as it did. -/
def fnExactMendNameSpec : ChangeSpec := { name := "fnExactMendName", fn := fun _ => fun
  | [d1, d2, d3] => { results := [.lit (.bool true)], args := [d1, d2, d3] }
  | _ => none }
def fnExactMendNameRow : OpenClaim := { program := "ytgdfaamcmkfkcaa", sum := "519ae0f987536cb01598f4179e1e79202a3f9929dfb3bd966be79f026f979202", func := "loop.example/shieling/laws.FnExactMendName", spec := "fnExactMendName", recurses := true, apart := false }
def FnExactMendNameSaid : Prop := fnExactMendNameRow.holds Try.pinned (OpenSpec.ofChange fnExactMendNameSpec)

/-- ITS FALSE NEIGHBOUR: 'it returns false'. Refute it at one input. -/
def fnExactMendNameWrong : ChangeSpec := { name := "fnExactMendName", fn := fun _ => fun
  | [d1, d2, d3] => { results := [.lit (.bool false)], args := [d1, d2, d3] }
  | _ => none }
def FnExactMendNameWrongFalsely : Prop := fnExactMendNameRow.holds Try.pinned (OpenSpec.ofChange fnExactMendNameWrong)

/-- 'laws.FnExactWalkList': WHATEVER THE INPUT: true; the input reads as it did. -/
def fnExactWalkListSpec : ChangeSpec := { name := "fnExactWalkList", fn := fun _ => fun
  | [d] => { results := [.lit (.bool true)], args := [d] }
  | _ => none }
def fnExactWalkListRow : OpenClaim := { program := "ytgdfaamcmkfkcaa", sum := "519ae0f987536cb01598f4179e1e79202a3f9929dfb3bd966be79f026f979202", func := "loop.example/shieling/laws.FnExactWalkList", spec := "fnExactWalkList", recurses := true, apart := false }
def FnExactWalkListSaid : Prop := fnExactWalkListRow.holds Try.pinned (OpenSpec.ofChange fnExactWalkListSpec)

/-- ITS FALSE NEIGHBOUR: 'it returns false'. Refute it at one input. -/
def fnExactWalkListWrong : ChangeSpec := { name := "fnExactWalkList", fn := fun _ => fun
  | [d] => { results := [.lit (.bool false)], args := [d] }
  | _ => none }
def FnExactWalkListWrongFalsely : Prop := fnExactWalkListRow.holds Try.pinned (OpenSpec.ofChange fnExactWalkListWrong)

/-- 'laws.FnExactMendList': WHATEVER THE INPUT: true; the input reads as it did. -/
def fnExactMendListSpec : ChangeSpec := { name := "fnExactMendList", fn := fun _ => fun
  | [d1, d2] => { results := [.lit (.bool true)], args := [d1, d2] }
  | _ => none }
def fnExactMendListRow : OpenClaim := { program := "ytgdfaamcmkfkcaa", sum := "519ae0f987536cb01598f4179e1e79202a3f9929dfb3bd966be79f026f979202", func := "loop.example/shieling/laws.FnExactMendList", spec := "fnExactMendList", unfollowed := true, recurses := true, apart := false }
def FnExactMendListSaid : Prop := fnExactMendListRow.holds Try.pinned (OpenSpec.ofChange fnExactMendListSpec)

/-- ITS FALSE NEIGHBOUR: 'it returns false'. Refute it at one input. -/
def fnExactMendListWrong : ChangeSpec := { name := "fnExactMendList", fn := fun _ => fun
  | [d1, d2] => { results := [.lit (.bool false)], args := [d1, d2] }
  | _ => none }
def FnExactMendListWrongFalsely : Prop := fnExactMendListRow.holds Try.pinned (OpenSpec.ofChange fnExactMendListWrong)

/-- 'laws.FnExactToldFold': WHATEVER THE INPUT: true; the input reads as it did. -/
def fnExactToldFoldSpec : ChangeSpec := { name := "fnExactToldFold", fn := fun _ => fun
  | [d1, d2] => { results := [.lit (.bool true)], args := [d1, d2] }
  | _ => none }
def fnExactToldFoldRow : OpenClaim := { program := "ytgdfaamcmkfkcaa", sum := "519ae0f987536cb01598f4179e1e79202a3f9929dfb3bd966be79f026f979202", func := "loop.example/shieling/laws.FnExactToldFold", spec := "fnExactToldFold", unfollowed := true, recurses := true, apart := false }
def FnExactToldFoldSaid : Prop := fnExactToldFoldRow.holds Try.pinned (OpenSpec.ofChange fnExactToldFoldSpec)

/-- ITS FALSE NEIGHBOUR: 'it returns false'. Refute it at one input. -/
def fnExactToldFoldWrong : ChangeSpec := { name := "fnExactToldFold", fn := fun _ => fun
  | [d1, d2] => { results := [.lit (.bool false)], args := [d1, d2] }
  | _ => none }
def FnExactToldFoldWrongFalsely : Prop := fnExactToldFoldRow.holds Try.pinned (OpenSpec.ofChange fnExactToldFoldWrong)

/- THE SECOND FORM. 'bulk': how many values and letters a reading holds, each counted each time it is reached (what is shared counts as often as it is met; a slice's spare places count too). A statement '..UptoSaid' is the law's where the arguments, and the package variables that the reading takes, are together of bulk at most 1048576: NARROWER than '..Said'. Prove '..Said' where nothing that the law and all that it calls make is longer than what came in: it says more and counts as full. Else prove '..UptoSaid'. A law counts once. -/
mutual
def uptoBulk {H : Type} : DataW H → Nat
  | .lit (.string bytes) => bytes.length + 1
  | .lit _ => 1
  | .nil => 1
  | .ptr d => uptoBulk d + 1
  | .slice elems spare => uptoBulkAll elems + uptoBulkAll spare + 1
  | .agg parts => uptoBulkAll parts + 1
  | .iface _ d => uptoBulk d + 1
  | .map entries => uptoBulkEntries entries + 1
  | .held _ => 1
def uptoBulkAll {H : Type} : List (DataW H) → Nat
  | [] => 0
  | d :: r => uptoBulk d + uptoBulkAll r
def uptoBulkEntries {H : Type} : List (Lit × DataW H) → Nat
  | [] => 0
  | x :: r => uptoBulkEntry x + uptoBulkEntries r
def uptoBulkEntry {H : Type} : Lit × DataW H → Nat
  | (.string bytes, d) => bytes.length + uptoBulk d + 1
  | (_, d) => uptoBulk d + 1
 end
def uptoSmall : (H : Type) → List (DataW H) → Bool := fun _ ds => decide (uptoBulkAll ds ≤ 1048576)
def OpenSpec.upto (s : _root_.Go.ChangeSpec) : _root_.Go.OpenSpec := { _root_.Go.OpenSpec.ofChange s with cond := some uptoSmall }

/-- 'laws.FnExactWalkMany', WHERE WHAT IT READS IS OF BULK AT MOST 1048576: true; the input reads as it did. -/
def fnExactWalkManyUptoRow : OpenClaim := { program := "ytgdfaamcmkfkcaa", sum := "519ae0f987536cb01598f4179e1e79202a3f9929dfb3bd966be79f026f979202", func := "loop.example/shieling/laws.FnExactWalkMany", spec := "fnExactWalkMany", recurses := true, apart := false, narrowed := true }
def FnExactWalkManyUptoSaid : Prop := fnExactWalkManyUptoRow.holds Try.pinned (OpenSpec.upto fnExactWalkManySpec)

/-- 'laws.FnExactWalkDepth', WHERE WHAT IT READS IS OF BULK AT MOST 1048576: true; the input reads as it did. -/
def fnExactWalkDepthUptoRow : OpenClaim := { program := "ytgdfaamcmkfkcaa", sum := "519ae0f987536cb01598f4179e1e79202a3f9929dfb3bd966be79f026f979202", func := "loop.example/shieling/laws.FnExactWalkDepth", spec := "fnExactWalkDepth", recurses := true, apart := false, narrowed := true }
def FnExactWalkDepthUptoSaid : Prop := fnExactWalkDepthUptoRow.holds Try.pinned (OpenSpec.upto fnExactWalkDepthSpec)

/-- 'laws.FnExactMendName', WHERE WHAT IT READS IS OF BULK AT MOST 1048576: true; the input reads as it did. -/
def fnExactMendNameUptoRow : OpenClaim := { program := "ytgdfaamcmkfkcaa", sum := "519ae0f987536cb01598f4179e1e79202a3f9929dfb3bd966be79f026f979202", func := "loop.example/shieling/laws.FnExactMendName", spec := "fnExactMendName", recurses := true, apart := false, narrowed := true }
def FnExactMendNameUptoSaid : Prop := fnExactMendNameUptoRow.holds Try.pinned (OpenSpec.upto fnExactMendNameSpec)

/-- 'laws.FnExactWalkList', WHERE WHAT IT READS IS OF BULK AT MOST 1048576: true; the input reads as it did. -/
def fnExactWalkListUptoRow : OpenClaim := { program := "ytgdfaamcmkfkcaa", sum := "519ae0f987536cb01598f4179e1e79202a3f9929dfb3bd966be79f026f979202", func := "loop.example/shieling/laws.FnExactWalkList", spec := "fnExactWalkList", recurses := true, apart := false, narrowed := true }
def FnExactWalkListUptoSaid : Prop := fnExactWalkListUptoRow.holds Try.pinned (OpenSpec.upto fnExactWalkListSpec)

/-- 'laws.FnExactMendList', WHERE WHAT IT READS IS OF BULK AT MOST 1048576: true; the input reads as it did. -/
def fnExactMendListUptoRow : OpenClaim := { program := "ytgdfaamcmkfkcaa", sum := "519ae0f987536cb01598f4179e1e79202a3f9929dfb3bd966be79f026f979202", func := "loop.example/shieling/laws.FnExactMendList", spec := "fnExactMendList", unfollowed := true, recurses := true, apart := false, narrowed := true }
def FnExactMendListUptoSaid : Prop := fnExactMendListUptoRow.holds Try.pinned (OpenSpec.upto fnExactMendListSpec)

/-- 'laws.FnExactToldFold', WHERE WHAT IT READS IS OF BULK AT MOST 1048576: true; the input reads as it did. -/
def fnExactToldFoldUptoRow : OpenClaim := { program := "ytgdfaamcmkfkcaa", sum := "519ae0f987536cb01598f4179e1e79202a3f9929dfb3bd966be79f026f979202", func := "loop.example/shieling/laws.FnExactToldFold", spec := "fnExactToldFold", unfollowed := true, recurses := true, apart := false, narrowed := true }
def FnExactToldFoldUptoSaid : Prop := fnExactToldFoldUptoRow.holds Try.pinned (OpenSpec.upto fnExactToldFoldSpec)

end Rows
end Go.Proofs.Ytgdfaamcmkfkcaa
