/-
  No cell of these rows narrows 'for every input' (looked for: loops, veiled, ifaces, maps, wideKeys, modest, calm, conditions, laid).
  DERIVED. THE GIVEN ROWS OF THIS SEAT. 6 by the template 'for every input the law returns true; each argument reads behind the call as it read before'; 0 by the template 'total and deterministic' (their statements: YtmhmnjeimjjipaaTotals.lean).
  GIVEN WITH THE SEED: the statements are not yours to turn. If you find one false, say at which input.
  Laid BY PROGRAM, IN A SANDBOX (cutbox-rows.mjs): the forced cells as the released guide's own fill.sh prints them over the translation 642a143130c39bc5… (all of the seat's roots in one cut). By AI agents, Wed Nov 11 2026. No macro, syntax, notation, axiom, sorry.
-/
import Derived.Test.YtmhmnjeimjjipaaChecked
import GoSem.Claim
import GoSem.ClaimJoined
import GoSem.ClaimMapViews
import Derived.JoinedTies
import Derived.KernelRfl
namespace Go.Proofs.Ytmhmnjeimjjipaa
/- THE CELL 'sum', in the pinned program and in every row, IS THE sha256 OF THE DUMP (.gsa) THAT YtmhmnjeimjjipaaProg.lean LOADS. Nothing in Lean hashes anything: it is a label: what it is worth is what the hold of that sum in a sandbox is worth. -/
noncomputable def Try.pinned : Pinned := { name := "ytmhmnjeimjjipaa", sum := "642a143130c39bc5a2f07337d3d512b5db202b3e2e2af32f92a421507cae32ca", checked := Try.checked }
namespace Rows
def none {H : Type} : Left H := { results := [], args := [] }

/-- 'orrerylaw05.LanesSquares': WHATEVER THE INPUT: true; the input reads as it did. -/
def lanesSquaresSpec : ChangeSpec := { name := "lanesSquares", fn := fun _ => fun
  | [d] => { results := [.lit (.bool true)], args := [d] }
  | _ => none }
def lanesSquaresRow : OpenClaim := { program := "ytmhmnjeimjjipaa", sum := "642a143130c39bc5a2f07337d3d512b5db202b3e2e2af32f92a421507cae32ca", func := "orrery/orrerylaw05.LanesSquares", spec := "lanesSquares", unfollowed := true, recurses := true, apart := false }
def LanesSquaresSaid : Prop := lanesSquaresRow.holds Try.pinned (OpenSpec.ofChange lanesSquaresSpec)

/-- ITS FALSE NEIGHBOUR: 'it returns false'. Refute it at one input. -/
def lanesSquaresWrong : ChangeSpec := { name := "lanesSquares", fn := fun _ => fun
  | [d] => { results := [.lit (.bool false)], args := [d] }
  | _ => none }
def LanesSquaresWrongFalsely : Prop := lanesSquaresRow.holds Try.pinned (OpenSpec.ofChange lanesSquaresWrong)

/-- 'orrerylaw05.LanesTurn': WHATEVER THE INPUT: true; the input reads as it did. -/
def lanesTurnSpec : ChangeSpec := { name := "lanesTurn", fn := fun _ => fun
  | [d1, d2, d3] => { results := [.lit (.bool true)], args := [d1, d2, d3] }
  | _ => none }
def lanesTurnRow : OpenClaim := { program := "ytmhmnjeimjjipaa", sum := "642a143130c39bc5a2f07337d3d512b5db202b3e2e2af32f92a421507cae32ca", func := "orrery/orrerylaw05.LanesTurn", spec := "lanesTurn", unfollowed := true, recurses := true, apart := false }
def LanesTurnSaid : Prop := lanesTurnRow.holds Try.pinned (OpenSpec.ofChange lanesTurnSpec)

/-- ITS FALSE NEIGHBOUR: 'it returns false'. Refute it at one input. -/
def lanesTurnWrong : ChangeSpec := { name := "lanesTurn", fn := fun _ => fun
  | [d1, d2, d3] => { results := [.lit (.bool false)], args := [d1, d2, d3] }
  | _ => none }
def LanesTurnWrongFalsely : Prop := lanesTurnRow.holds Try.pinned (OpenSpec.ofChange lanesTurnWrong)

/-- 'orrerylaw05.LanesApart': WHATEVER THE INPUT: true; the input reads as it did. -/
def lanesApartSpec : ChangeSpec := { name := "lanesApart", fn := fun _ => fun
  | [d1, d2, d3] => { results := [.lit (.bool true)], args := [d1, d2, d3] }
  | _ => none }
def lanesApartRow : OpenClaim := { program := "ytmhmnjeimjjipaa", sum := "642a143130c39bc5a2f07337d3d512b5db202b3e2e2af32f92a421507cae32ca", func := "orrery/orrerylaw05.LanesApart", spec := "lanesApart", unfollowed := true, recurses := true, apart := false }
def LanesApartSaid : Prop := lanesApartRow.holds Try.pinned (OpenSpec.ofChange lanesApartSpec)

/-- ITS FALSE NEIGHBOUR: 'it returns false'. Refute it at one input. -/
def lanesApartWrong : ChangeSpec := { name := "lanesApart", fn := fun _ => fun
  | [d1, d2, d3] => { results := [.lit (.bool false)], args := [d1, d2, d3] }
  | _ => none }
def LanesApartWrongFalsely : Prop := lanesApartRow.holds Try.pinned (OpenSpec.ofChange lanesApartWrong)

/-- 'orrerylaw05.LanesCalls': WHATEVER THE INPUT: true; the input reads as it did. -/
def lanesCallsSpec : ChangeSpec := { name := "lanesCalls", fn := fun _ => fun
  | [d1, d2, d3] => { results := [.lit (.bool true)], args := [d1, d2, d3] }
  | _ => none }
def lanesCallsRow : OpenClaim := { program := "ytmhmnjeimjjipaa", sum := "642a143130c39bc5a2f07337d3d512b5db202b3e2e2af32f92a421507cae32ca", func := "orrery/orrerylaw05.LanesCalls", spec := "lanesCalls", unfollowed := true, recurses := true, apart := false }
def LanesCallsSaid : Prop := lanesCallsRow.holds Try.pinned (OpenSpec.ofChange lanesCallsSpec)

/-- ITS FALSE NEIGHBOUR: 'it returns false'. Refute it at one input. -/
def lanesCallsWrong : ChangeSpec := { name := "lanesCalls", fn := fun _ => fun
  | [d1, d2, d3] => { results := [.lit (.bool false)], args := [d1, d2, d3] }
  | _ => none }
def LanesCallsWrongFalsely : Prop := lanesCallsRow.holds Try.pinned (OpenSpec.ofChange lanesCallsWrong)

/-- 'orrerylaw05.LanesBack': WHATEVER THE INPUT: true; the input reads as it did. -/
def lanesBackSpec : ChangeSpec := { name := "lanesBack", fn := fun _ => fun
  | [d1, d2] => { results := [.lit (.bool true)], args := [d1, d2] }
  | _ => none }
def lanesBackRow : OpenClaim := { program := "ytmhmnjeimjjipaa", sum := "642a143130c39bc5a2f07337d3d512b5db202b3e2e2af32f92a421507cae32ca", func := "orrery/orrerylaw05.LanesBack", spec := "lanesBack", unfollowed := true, recurses := true, apart := false }
def LanesBackSaid : Prop := lanesBackRow.holds Try.pinned (OpenSpec.ofChange lanesBackSpec)

/-- ITS FALSE NEIGHBOUR: 'it returns false'. Refute it at one input. -/
def lanesBackWrong : ChangeSpec := { name := "lanesBack", fn := fun _ => fun
  | [d1, d2] => { results := [.lit (.bool false)], args := [d1, d2] }
  | _ => none }
def LanesBackWrongFalsely : Prop := lanesBackRow.holds Try.pinned (OpenSpec.ofChange lanesBackWrong)

/-- 'orrerylaw05.LanesKnown': WHATEVER THE INPUT: true; the input reads as it did. -/
def lanesKnownSpec : ChangeSpec := { name := "lanesKnown", fn := fun _ => fun
  | [] => { results := [.lit (.bool true)], args := [] }
  | _ => none }
def lanesKnownRow : OpenClaim := { program := "ytmhmnjeimjjipaa", sum := "642a143130c39bc5a2f07337d3d512b5db202b3e2e2af32f92a421507cae32ca", func := "orrery/orrerylaw05.LanesKnown", spec := "lanesKnown", unfollowed := true, recurses := true, apart := false }
def LanesKnownSaid : Prop := lanesKnownRow.holds Try.pinned (OpenSpec.ofChange lanesKnownSpec)

/-- ITS FALSE NEIGHBOUR: 'it returns false'. Refute it at one input. -/
def lanesKnownWrong : ChangeSpec := { name := "lanesKnown", fn := fun _ => fun
  | [] => { results := [.lit (.bool false)], args := [] }
  | _ => none }
def LanesKnownWrongFalsely : Prop := lanesKnownRow.holds Try.pinned (OpenSpec.ofChange lanesKnownWrong)

/- THE SECOND FORM. 'bulk': how many values and letters a reading holds, each counted each time it is reached (what is shared counts as often as it is met; a slice's spare places count too). A statement '..UptoSaid' is the law's where the arguments, and the package variables that the reading takes, are together of bulk at most 1048576: NARROWER than '..Said'. Prove '..Said' where nothing that the law and all that it calls make is longer than what came in: it says more and counts as full. Else prove '..UptoSaid'. A law counts once. -/
mutual
def uptoBulk {H : Type} : DataW H → Nat
  | .lit (.string bytes) => bytes.length + 1
  | .lit _ => 1
  | .nil => 1
  | .ptr d => uptoBulk d + 1
  | .slice elems spare => uptoBulkAll elems + uptoBulkAll spare + 1
  | .agg parts => uptoBulkAll parts + 1
  | .iface _ d => uptoBulk d + 1
  | .map entries => uptoBulkEntries entries + 1
  | .held _ => 1
def uptoBulkAll {H : Type} : List (DataW H) → Nat
  | [] => 0
  | d :: r => uptoBulk d + uptoBulkAll r
def uptoBulkEntries {H : Type} : List (Lit × DataW H) → Nat
  | [] => 0
  | x :: r => uptoBulkEntry x + uptoBulkEntries r
def uptoBulkEntry {H : Type} : Lit × DataW H → Nat
  | (.string bytes, d) => bytes.length + uptoBulk d + 1
  | (_, d) => uptoBulk d + 1
 end
def uptoSmall : (H : Type) → List (DataW H) → Bool := fun _ ds => decide (uptoBulkAll ds ≤ 1048576)
def OpenSpec.upto (s : _root_.Go.ChangeSpec) : _root_.Go.OpenSpec := { _root_.Go.OpenSpec.ofChange s with cond := some uptoSmall }

/-- 'orrerylaw05.LanesSquares', WHERE WHAT IT READS IS OF BULK AT MOST 1048576: true; the input reads as it did. -/
def lanesSquaresUptoRow : OpenClaim := { program := "ytmhmnjeimjjipaa", sum := "642a143130c39bc5a2f07337d3d512b5db202b3e2e2af32f92a421507cae32ca", func := "orrery/orrerylaw05.LanesSquares", spec := "lanesSquares", unfollowed := true, recurses := true, apart := false, narrowed := true }
def LanesSquaresUptoSaid : Prop := lanesSquaresUptoRow.holds Try.pinned (OpenSpec.upto lanesSquaresSpec)

/-- 'orrerylaw05.LanesTurn', WHERE WHAT IT READS IS OF BULK AT MOST 1048576: true; the input reads as it did. -/
def lanesTurnUptoRow : OpenClaim := { program := "ytmhmnjeimjjipaa", sum := "642a143130c39bc5a2f07337d3d512b5db202b3e2e2af32f92a421507cae32ca", func := "orrery/orrerylaw05.LanesTurn", spec := "lanesTurn", unfollowed := true, recurses := true, apart := false, narrowed := true }
def LanesTurnUptoSaid : Prop := lanesTurnUptoRow.holds Try.pinned (OpenSpec.upto lanesTurnSpec)

/-- 'orrerylaw05.LanesApart', WHERE WHAT IT READS IS OF BULK AT MOST 1048576: true; the input reads as it did. -/
def lanesApartUptoRow : OpenClaim := { program := "ytmhmnjeimjjipaa", sum := "642a143130c39bc5a2f07337d3d512b5db202b3e2e2af32f92a421507cae32ca", func := "orrery/orrerylaw05.LanesApart", spec := "lanesApart", unfollowed := true, recurses := true, apart := false, narrowed := true }
def LanesApartUptoSaid : Prop := lanesApartUptoRow.holds Try.pinned (OpenSpec.upto lanesApartSpec)

/-- 'orrerylaw05.LanesCalls', WHERE WHAT IT READS IS OF BULK AT MOST 1048576: true; the input reads as it did. -/
def lanesCallsUptoRow : OpenClaim := { program := "ytmhmnjeimjjipaa", sum := "642a143130c39bc5a2f07337d3d512b5db202b3e2e2af32f92a421507cae32ca", func := "orrery/orrerylaw05.LanesCalls", spec := "lanesCalls", unfollowed := true, recurses := true, apart := false, narrowed := true }
def LanesCallsUptoSaid : Prop := lanesCallsUptoRow.holds Try.pinned (OpenSpec.upto lanesCallsSpec)

/-- 'orrerylaw05.LanesBack', WHERE WHAT IT READS IS OF BULK AT MOST 1048576: true; the input reads as it did. -/
def lanesBackUptoRow : OpenClaim := { program := "ytmhmnjeimjjipaa", sum := "642a143130c39bc5a2f07337d3d512b5db202b3e2e2af32f92a421507cae32ca", func := "orrery/orrerylaw05.LanesBack", spec := "lanesBack", unfollowed := true, recurses := true, apart := false, narrowed := true }
def LanesBackUptoSaid : Prop := lanesBackUptoRow.holds Try.pinned (OpenSpec.upto lanesBackSpec)

/-- 'orrerylaw05.LanesKnown', WHERE WHAT IT READS IS OF BULK AT MOST 1048576: true; the input reads as it did. -/
def lanesKnownUptoRow : OpenClaim := { program := "ytmhmnjeimjjipaa", sum := "642a143130c39bc5a2f07337d3d512b5db202b3e2e2af32f92a421507cae32ca", func := "orrery/orrerylaw05.LanesKnown", spec := "lanesKnown", unfollowed := true, recurses := true, apart := false, narrowed := true }
def LanesKnownUptoSaid : Prop := lanesKnownUptoRow.holds Try.pinned (OpenSpec.upto lanesKnownSpec)

end Rows
end Go.Proofs.Ytmhmnjeimjjipaa
