/-
  No cell of these rows narrows 'for every input' (looked for: loops, veiled, ifaces, maps, wideKeys, modest, calm, conditions, laid).
  DERIVED. THE GIVEN ROWS OF THIS SEAT. 5 by the template 'for every input the law returns true; each argument reads behind the call as it read before'; 0 by the template 'total and deterministic' (their statements: YtbdhjoanjlkggaaTotals.lean).
  GIVEN WITH THE SEED: the statements are not yours to turn. If you find one false, say at which input.
  Laid BY PROGRAM, IN A SANDBOX (cutbox-rows.mjs): the forced cells as the released guide's own fill.sh prints them over the translation 25894dd9dccb0638… (all of the seat's roots in one cut). By AI agents, Wed Nov 11 2026. No macro, syntax, notation, axiom, sorry.
-/
import Derived.Test.YtbdhjoanjlkggaaChecked
import GoSem.Claim
import GoSem.ClaimJoined
import GoSem.ClaimMapViews
import Derived.JoinedTies
import Derived.KernelRfl
namespace Go.Proofs.Ytbdhjoanjlkggaa
/- THE CELL 'sum', in the pinned program and in every row, IS THE sha256 OF THE DUMP (.gsa) THAT YtbdhjoanjlkggaaProg.lean LOADS. Nothing in Lean hashes anything: it is a label: what it is worth is what the hold of that sum in a sandbox is worth. -/
noncomputable def Try.pinned : Pinned := { name := "ytbdhjoanjlkggaa", sum := "25894dd9dccb06381d04520daa466c77d40afa9e0141aeb7adb9a24effdde0b2", checked := Try.checked }
namespace Rows
def none {H : Type} : Left H := { results := [], args := [] }

/-- 'orrerylaw07.LevelReach': WHATEVER THE INPUT: true; the input reads as it did. -/
def levelReachSpec : ChangeSpec := { name := "levelReach", fn := fun _ => fun
  | [d1, d2] => { results := [.lit (.bool true)], args := [d1, d2] }
  | _ => none }
def levelReachRow : OpenClaim := { program := "ytbdhjoanjlkggaa", sum := "25894dd9dccb06381d04520daa466c77d40afa9e0141aeb7adb9a24effdde0b2", func := "orrery/orrerylaw07.LevelReach", spec := "levelReach", unfollowed := true, recurses := true, apart := false }
def LevelReachSaid : Prop := levelReachRow.holds Try.pinned (OpenSpec.ofChange levelReachSpec)

/-- ITS FALSE NEIGHBOUR: 'it returns false'. Refute it at one input. -/
def levelReachWrong : ChangeSpec := { name := "levelReach", fn := fun _ => fun
  | [d1, d2] => { results := [.lit (.bool false)], args := [d1, d2] }
  | _ => none }
def LevelReachWrongFalsely : Prop := levelReachRow.holds Try.pinned (OpenSpec.ofChange levelReachWrong)

/-- 'orrerylaw07.LevelCalls': WHATEVER THE INPUT: true; the input reads as it did. -/
def levelCallsSpec : ChangeSpec := { name := "levelCalls", fn := fun _ => fun
  | [d1, d2, d3] => { results := [.lit (.bool true)], args := [d1, d2, d3] }
  | _ => none }
def levelCallsRow : OpenClaim := { program := "ytbdhjoanjlkggaa", sum := "25894dd9dccb06381d04520daa466c77d40afa9e0141aeb7adb9a24effdde0b2", func := "orrery/orrerylaw07.LevelCalls", spec := "levelCalls", unfollowed := true, recurses := true, apart := false }
def LevelCallsSaid : Prop := levelCallsRow.holds Try.pinned (OpenSpec.ofChange levelCallsSpec)

/-- ITS FALSE NEIGHBOUR: 'it returns false'. Refute it at one input. -/
def levelCallsWrong : ChangeSpec := { name := "levelCalls", fn := fun _ => fun
  | [d1, d2, d3] => { results := [.lit (.bool false)], args := [d1, d2, d3] }
  | _ => none }
def LevelCallsWrongFalsely : Prop := levelCallsRow.holds Try.pinned (OpenSpec.ofChange levelCallsWrong)

/-- 'orrerylaw07.LevelDepth': WHATEVER THE INPUT: true; the input reads as it did. -/
def levelDepthSpec : ChangeSpec := { name := "levelDepth", fn := fun _ => fun
  | [d] => { results := [.lit (.bool true)], args := [d] }
  | _ => none }
def levelDepthRow : OpenClaim := { program := "ytbdhjoanjlkggaa", sum := "25894dd9dccb06381d04520daa466c77d40afa9e0141aeb7adb9a24effdde0b2", func := "orrery/orrerylaw07.LevelDepth", spec := "levelDepth", unfollowed := true, recurses := true, apart := false }
def LevelDepthSaid : Prop := levelDepthRow.holds Try.pinned (OpenSpec.ofChange levelDepthSpec)

/-- ITS FALSE NEIGHBOUR: 'it returns false'. Refute it at one input. -/
def levelDepthWrong : ChangeSpec := { name := "levelDepth", fn := fun _ => fun
  | [d] => { results := [.lit (.bool false)], args := [d] }
  | _ => none }
def LevelDepthWrongFalsely : Prop := levelDepthRow.holds Try.pinned (OpenSpec.ofChange levelDepthWrong)

/-- 'orrerylaw07.LevelOrder': WHATEVER THE INPUT: true; the input reads as it did. -/
def levelOrderSpec : ChangeSpec := { name := "levelOrder", fn := fun _ => fun
  | [d] => { results := [.lit (.bool true)], args := [d] }
  | _ => none }
def levelOrderRow : OpenClaim := { program := "ytbdhjoanjlkggaa", sum := "25894dd9dccb06381d04520daa466c77d40afa9e0141aeb7adb9a24effdde0b2", func := "orrery/orrerylaw07.LevelOrder", spec := "levelOrder", unfollowed := true, recurses := true, apart := false }
def LevelOrderSaid : Prop := levelOrderRow.holds Try.pinned (OpenSpec.ofChange levelOrderSpec)

/-- ITS FALSE NEIGHBOUR: 'it returns false'. Refute it at one input. -/
def levelOrderWrong : ChangeSpec := { name := "levelOrder", fn := fun _ => fun
  | [d] => { results := [.lit (.bool false)], args := [d] }
  | _ => none }
def LevelOrderWrongFalsely : Prop := levelOrderRow.holds Try.pinned (OpenSpec.ofChange levelOrderWrong)

/-- 'orrerylaw07.LevelKnown': WHATEVER THE INPUT: true; the input reads as it did. -/
def levelKnownSpec : ChangeSpec := { name := "levelKnown", fn := fun _ => fun
  | [] => { results := [.lit (.bool true)], args := [] }
  | _ => none }
def levelKnownRow : OpenClaim := { program := "ytbdhjoanjlkggaa", sum := "25894dd9dccb06381d04520daa466c77d40afa9e0141aeb7adb9a24effdde0b2", func := "orrery/orrerylaw07.LevelKnown", spec := "levelKnown", unfollowed := true, recurses := true, apart := false }
def LevelKnownSaid : Prop := levelKnownRow.holds Try.pinned (OpenSpec.ofChange levelKnownSpec)

/-- ITS FALSE NEIGHBOUR: 'it returns false'. Refute it at one input. -/
def levelKnownWrong : ChangeSpec := { name := "levelKnown", fn := fun _ => fun
  | [] => { results := [.lit (.bool false)], args := [] }
  | _ => none }
def LevelKnownWrongFalsely : Prop := levelKnownRow.holds Try.pinned (OpenSpec.ofChange levelKnownWrong)

/- THE SECOND FORM. 'bulk': how many values and letters a reading holds, each counted each time it is reached (what is shared counts as often as it is met; a slice's spare places count too). A statement '..UptoSaid' is the law's where the arguments, and the package variables that the reading takes, are together of bulk at most 1048576: NARROWER than '..Said'. Prove '..Said' where nothing that the law and all that it calls make is longer than what came in: it says more and counts as full. Else prove '..UptoSaid'. A law counts once. -/
mutual
def uptoBulk {H : Type} : DataW H → Nat
  | .lit (.string bytes) => bytes.length + 1
  | .lit _ => 1
  | .nil => 1
  | .ptr d => uptoBulk d + 1
  | .slice elems spare => uptoBulkAll elems + uptoBulkAll spare + 1
  | .agg parts => uptoBulkAll parts + 1
  | .iface _ d => uptoBulk d + 1
  | .map entries => uptoBulkEntries entries + 1
  | .held _ => 1
def uptoBulkAll {H : Type} : List (DataW H) → Nat
  | [] => 0
  | d :: r => uptoBulk d + uptoBulkAll r
def uptoBulkEntries {H : Type} : List (Lit × DataW H) → Nat
  | [] => 0
  | x :: r => uptoBulkEntry x + uptoBulkEntries r
def uptoBulkEntry {H : Type} : Lit × DataW H → Nat
  | (.string bytes, d) => bytes.length + uptoBulk d + 1
  | (_, d) => uptoBulk d + 1
 end
def uptoSmall : (H : Type) → List (DataW H) → Bool := fun _ ds => decide (uptoBulkAll ds ≤ 1048576)
def OpenSpec.upto (s : _root_.Go.ChangeSpec) : _root_.Go.OpenSpec := { _root_.Go.OpenSpec.ofChange s with cond := some uptoSmall }

/-- 'orrerylaw07.LevelReach', WHERE WHAT IT READS IS OF BULK AT MOST 1048576: true; the input reads as it did. -/
def levelReachUptoRow : OpenClaim := { program := "ytbdhjoanjlkggaa", sum := "25894dd9dccb06381d04520daa466c77d40afa9e0141aeb7adb9a24effdde0b2", func := "orrery/orrerylaw07.LevelReach", spec := "levelReach", unfollowed := true, recurses := true, apart := false, narrowed := true }
def LevelReachUptoSaid : Prop := levelReachUptoRow.holds Try.pinned (OpenSpec.upto levelReachSpec)

/-- 'orrerylaw07.LevelCalls', WHERE WHAT IT READS IS OF BULK AT MOST 1048576: true; the input reads as it did. -/
def levelCallsUptoRow : OpenClaim := { program := "ytbdhjoanjlkggaa", sum := "25894dd9dccb06381d04520daa466c77d40afa9e0141aeb7adb9a24effdde0b2", func := "orrery/orrerylaw07.LevelCalls", spec := "levelCalls", unfollowed := true, recurses := true, apart := false, narrowed := true }
def LevelCallsUptoSaid : Prop := levelCallsUptoRow.holds Try.pinned (OpenSpec.upto levelCallsSpec)

/-- 'orrerylaw07.LevelDepth', WHERE WHAT IT READS IS OF BULK AT MOST 1048576: true; the input reads as it did. -/
def levelDepthUptoRow : OpenClaim := { program := "ytbdhjoanjlkggaa", sum := "25894dd9dccb06381d04520daa466c77d40afa9e0141aeb7adb9a24effdde0b2", func := "orrery/orrerylaw07.LevelDepth", spec := "levelDepth", unfollowed := true, recurses := true, apart := false, narrowed := true }
def LevelDepthUptoSaid : Prop := levelDepthUptoRow.holds Try.pinned (OpenSpec.upto levelDepthSpec)

/-- 'orrerylaw07.LevelOrder', WHERE WHAT IT READS IS OF BULK AT MOST 1048576: true; the input reads as it did. -/
def levelOrderUptoRow : OpenClaim := { program := "ytbdhjoanjlkggaa", sum := "25894dd9dccb06381d04520daa466c77d40afa9e0141aeb7adb9a24effdde0b2", func := "orrery/orrerylaw07.LevelOrder", spec := "levelOrder", unfollowed := true, recurses := true, apart := false, narrowed := true }
def LevelOrderUptoSaid : Prop := levelOrderUptoRow.holds Try.pinned (OpenSpec.upto levelOrderSpec)

/-- 'orrerylaw07.LevelKnown', WHERE WHAT IT READS IS OF BULK AT MOST 1048576: true; the input reads as it did. -/
def levelKnownUptoRow : OpenClaim := { program := "ytbdhjoanjlkggaa", sum := "25894dd9dccb06381d04520daa466c77d40afa9e0141aeb7adb9a24effdde0b2", func := "orrery/orrerylaw07.LevelKnown", spec := "levelKnown", unfollowed := true, recurses := true, apart := false, narrowed := true }
def LevelKnownUptoSaid : Prop := levelKnownUptoRow.holds Try.pinned (OpenSpec.upto levelKnownSpec)

end Rows
end Go.Proofs.Ytbdhjoanjlkggaa
