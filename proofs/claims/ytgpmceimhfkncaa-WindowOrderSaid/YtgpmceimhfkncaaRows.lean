/-
  No cell of these rows narrows 'for every input' (looked for: loops, veiled, ifaces, maps, wideKeys, modest, calm, conditions, laid).
  DERIVED. THE GIVEN ROWS OF THIS SEAT. 9 by the template 'for every input the law returns true; each argument reads behind the call as it read before'; 0 by the template 'total and deterministic' (their statements: YtgpmceimhfkncaaTotals.lean).
  GIVEN WITH THE SEED: the statements are not yours to turn. If you find one false, say at which input.
  Laid BY PROGRAM, IN A SANDBOX (cutbox-rows.mjs): the forced cells as the released guide's own fill.sh prints them over the translation 44bd2cb04a055cf5… (all of the seat's roots in one cut). By AI agents, Wed Nov 11 2026. No macro, syntax, notation, axiom, sorry.
-/
import Derived.Test.YtgpmceimhfkncaaChecked
import GoSem.Claim
import GoSem.ClaimJoined
import GoSem.ClaimMapViews
import Derived.JoinedTies
import Derived.KernelRfl
namespace Go.Proofs.Ytgpmceimhfkncaa
/- THE CELL 'sum', in the pinned program and in every row, IS THE sha256 OF THE DUMP (.gsa) THAT YtgpmceimhfkncaaProg.lean LOADS. Nothing in Lean hashes anything: it is a label: what it is worth is what the hold of that sum in a sandbox is worth. -/
noncomputable def Try.pinned : Pinned := { name := "ytgpmceimhfkncaa", sum := "44bd2cb04a055cf59294fdae2634f1ab955ca1758d743aa67164f85ad2c2114f", checked := Try.checked }
namespace Rows
def none {H : Type} : Left H := { results := [], args := [] }

/-- 'freshetlaw21.WindowAssign': WHATEVER THE INPUT: true; the input reads as it did. -/
def windowAssignSpec : ChangeSpec := { name := "windowAssign", fn := fun _ => fun
  | [d1, d2] => { results := [.lit (.bool true)], args := [d1, d2] }
  | _ => none }
def windowAssignRow : OpenClaim := { program := "ytgpmceimhfkncaa", sum := "44bd2cb04a055cf59294fdae2634f1ab955ca1758d743aa67164f85ad2c2114f", func := "freshet/freshetlaw21.WindowAssign", spec := "windowAssign", unfollowed := true, recurses := true, apart := false }
def WindowAssignSaid : Prop := windowAssignRow.holds Try.pinned (OpenSpec.ofChange windowAssignSpec)

/-- ITS FALSE NEIGHBOUR: 'it returns false'. Refute it at one input. -/
def windowAssignWrong : ChangeSpec := { name := "windowAssign", fn := fun _ => fun
  | [d1, d2] => { results := [.lit (.bool false)], args := [d1, d2] }
  | _ => none }
def WindowAssignWrongFalsely : Prop := windowAssignRow.holds Try.pinned (OpenSpec.ofChange windowAssignWrong)

/-- 'freshetlaw21.WindowMerge': WHATEVER THE INPUT: true; the input reads as it did. -/
def windowMergeSpec : ChangeSpec := { name := "windowMerge", fn := fun _ => fun
  | [d1, d2] => { results := [.lit (.bool true)], args := [d1, d2] }
  | _ => none }
def windowMergeRow : OpenClaim := { program := "ytgpmceimhfkncaa", sum := "44bd2cb04a055cf59294fdae2634f1ab955ca1758d743aa67164f85ad2c2114f", func := "freshet/freshetlaw21.WindowMerge", spec := "windowMerge", unfollowed := true, recurses := true, apart := false }
def WindowMergeSaid : Prop := windowMergeRow.holds Try.pinned (OpenSpec.ofChange windowMergeSpec)

/-- ITS FALSE NEIGHBOUR: 'it returns false'. Refute it at one input. -/
def windowMergeWrong : ChangeSpec := { name := "windowMerge", fn := fun _ => fun
  | [d1, d2] => { results := [.lit (.bool false)], args := [d1, d2] }
  | _ => none }
def WindowMergeWrongFalsely : Prop := windowMergeRow.holds Try.pinned (OpenSpec.ofChange windowMergeWrong)

/-- 'freshetlaw21.WindowHolds': WHATEVER THE INPUT: true; the input reads as it did. -/
def windowHoldsSpec : ChangeSpec := { name := "windowHolds", fn := fun _ => fun
  | [d1, d2] => { results := [.lit (.bool true)], args := [d1, d2] }
  | _ => none }
def windowHoldsRow : OpenClaim := { program := "ytgpmceimhfkncaa", sum := "44bd2cb04a055cf59294fdae2634f1ab955ca1758d743aa67164f85ad2c2114f", func := "freshet/freshetlaw21.WindowHolds", spec := "windowHolds", unfollowed := true, recurses := true, apart := false }
def WindowHoldsSaid : Prop := windowHoldsRow.holds Try.pinned (OpenSpec.ofChange windowHoldsSpec)

/-- ITS FALSE NEIGHBOUR: 'it returns false'. Refute it at one input. -/
def windowHoldsWrong : ChangeSpec := { name := "windowHolds", fn := fun _ => fun
  | [d1, d2] => { results := [.lit (.bool false)], args := [d1, d2] }
  | _ => none }
def WindowHoldsWrongFalsely : Prop := windowHoldsRow.holds Try.pinned (OpenSpec.ofChange windowHoldsWrong)

/-- 'freshetlaw21.WindowSessions': WHATEVER THE INPUT: true; the input reads as it did. -/
def windowSessionsSpec : ChangeSpec := { name := "windowSessions", fn := fun _ => fun
  | [d1, d2] => { results := [.lit (.bool true)], args := [d1, d2] }
  | _ => none }
def windowSessionsRow : OpenClaim := { program := "ytgpmceimhfkncaa", sum := "44bd2cb04a055cf59294fdae2634f1ab955ca1758d743aa67164f85ad2c2114f", func := "freshet/freshetlaw21.WindowSessions", spec := "windowSessions", unfollowed := true, recurses := true, apart := false }
def WindowSessionsSaid : Prop := windowSessionsRow.holds Try.pinned (OpenSpec.ofChange windowSessionsSpec)

/-- ITS FALSE NEIGHBOUR: 'it returns false'. Refute it at one input. -/
def windowSessionsWrong : ChangeSpec := { name := "windowSessions", fn := fun _ => fun
  | [d1, d2] => { results := [.lit (.bool false)], args := [d1, d2] }
  | _ => none }
def WindowSessionsWrongFalsely : Prop := windowSessionsRow.holds Try.pinned (OpenSpec.ofChange windowSessionsWrong)

/-- 'freshetlaw21.WindowTiles': WHATEVER THE INPUT: true; the input reads as it did. -/
def windowTilesSpec : ChangeSpec := { name := "windowTiles", fn := fun _ => fun
  | [d1, d2] => { results := [.lit (.bool true)], args := [d1, d2] }
  | _ => none }
def windowTilesRow : OpenClaim := { program := "ytgpmceimhfkncaa", sum := "44bd2cb04a055cf59294fdae2634f1ab955ca1758d743aa67164f85ad2c2114f", func := "freshet/freshetlaw21.WindowTiles", spec := "windowTiles", unfollowed := true, recurses := true, apart := false }
def WindowTilesSaid : Prop := windowTilesRow.holds Try.pinned (OpenSpec.ofChange windowTilesSpec)

/-- ITS FALSE NEIGHBOUR: 'it returns false'. Refute it at one input. -/
def windowTilesWrong : ChangeSpec := { name := "windowTiles", fn := fun _ => fun
  | [d1, d2] => { results := [.lit (.bool false)], args := [d1, d2] }
  | _ => none }
def WindowTilesWrongFalsely : Prop := windowTilesRow.holds Try.pinned (OpenSpec.ofChange windowTilesWrong)

/-- 'freshetlaw21.WindowMoved': WHATEVER THE INPUT: true; the input reads as it did. -/
def windowMovedSpec : ChangeSpec := { name := "windowMoved", fn := fun _ => fun
  | [d1, d2, d3] => { results := [.lit (.bool true)], args := [d1, d2, d3] }
  | _ => none }
def windowMovedRow : OpenClaim := { program := "ytgpmceimhfkncaa", sum := "44bd2cb04a055cf59294fdae2634f1ab955ca1758d743aa67164f85ad2c2114f", func := "freshet/freshetlaw21.WindowMoved", spec := "windowMoved", unfollowed := true, recurses := true, apart := false }
def WindowMovedSaid : Prop := windowMovedRow.holds Try.pinned (OpenSpec.ofChange windowMovedSpec)

/-- ITS FALSE NEIGHBOUR: 'it returns false'. Refute it at one input. -/
def windowMovedWrong : ChangeSpec := { name := "windowMoved", fn := fun _ => fun
  | [d1, d2, d3] => { results := [.lit (.bool false)], args := [d1, d2, d3] }
  | _ => none }
def WindowMovedWrongFalsely : Prop := windowMovedRow.holds Try.pinned (OpenSpec.ofChange windowMovedWrong)

/-- 'freshetlaw21.WindowWithin': WHATEVER THE INPUT: true; the input reads as it did. -/
def windowWithinSpec : ChangeSpec := { name := "windowWithin", fn := fun _ => fun
  | [d1, d2] => { results := [.lit (.bool true)], args := [d1, d2] }
  | _ => none }
def windowWithinRow : OpenClaim := { program := "ytgpmceimhfkncaa", sum := "44bd2cb04a055cf59294fdae2634f1ab955ca1758d743aa67164f85ad2c2114f", func := "freshet/freshetlaw21.WindowWithin", spec := "windowWithin", unfollowed := true, recurses := true, apart := false }
def WindowWithinSaid : Prop := windowWithinRow.holds Try.pinned (OpenSpec.ofChange windowWithinSpec)

/-- ITS FALSE NEIGHBOUR: 'it returns false'. Refute it at one input. -/
def windowWithinWrong : ChangeSpec := { name := "windowWithin", fn := fun _ => fun
  | [d1, d2] => { results := [.lit (.bool false)], args := [d1, d2] }
  | _ => none }
def WindowWithinWrongFalsely : Prop := windowWithinRow.holds Try.pinned (OpenSpec.ofChange windowWithinWrong)

/-- 'freshetlaw21.WindowText': WHATEVER THE INPUT: true; the input reads as it did. -/
def windowTextSpec : ChangeSpec := { name := "windowText", fn := fun _ => fun
  | [d1, d2] => { results := [.lit (.bool true)], args := [d1, d2] }
  | _ => none }
def windowTextRow : OpenClaim := { program := "ytgpmceimhfkncaa", sum := "44bd2cb04a055cf59294fdae2634f1ab955ca1758d743aa67164f85ad2c2114f", func := "freshet/freshetlaw21.WindowText", spec := "windowText", unfollowed := true, recurses := true, apart := false }
def WindowTextSaid : Prop := windowTextRow.holds Try.pinned (OpenSpec.ofChange windowTextSpec)

/-- ITS FALSE NEIGHBOUR: 'it returns false'. Refute it at one input. -/
def windowTextWrong : ChangeSpec := { name := "windowText", fn := fun _ => fun
  | [d1, d2] => { results := [.lit (.bool false)], args := [d1, d2] }
  | _ => none }
def WindowTextWrongFalsely : Prop := windowTextRow.holds Try.pinned (OpenSpec.ofChange windowTextWrong)

/-- 'freshetlaw21.WindowOrder': WHATEVER THE INPUT: true; the input reads as it did. -/
def windowOrderSpec : ChangeSpec := { name := "windowOrder", fn := fun _ => fun
  | [d1, d2] => { results := [.lit (.bool true)], args := [d1, d2] }
  | _ => none }
def windowOrderRow : OpenClaim := { program := "ytgpmceimhfkncaa", sum := "44bd2cb04a055cf59294fdae2634f1ab955ca1758d743aa67164f85ad2c2114f", func := "freshet/freshetlaw21.WindowOrder", spec := "windowOrder", unfollowed := true, recurses := true, apart := false }
def WindowOrderSaid : Prop := windowOrderRow.holds Try.pinned (OpenSpec.ofChange windowOrderSpec)

/-- ITS FALSE NEIGHBOUR: 'it returns false'. Refute it at one input. -/
def windowOrderWrong : ChangeSpec := { name := "windowOrder", fn := fun _ => fun
  | [d1, d2] => { results := [.lit (.bool false)], args := [d1, d2] }
  | _ => none }
def WindowOrderWrongFalsely : Prop := windowOrderRow.holds Try.pinned (OpenSpec.ofChange windowOrderWrong)

/- THE SECOND FORM. 'bulk': how many values and letters a reading holds, each counted each time it is reached (what is shared counts as often as it is met; a slice's spare places count too). A statement '..UptoSaid' is the law's where the arguments, and the package variables that the reading takes, are together of bulk at most 1048576: NARROWER than '..Said'. Prove '..Said' where nothing that the law and all that it calls make is longer than what came in: it says more and counts as full. Else prove '..UptoSaid'. A law counts once. -/
mutual
def uptoBulk {H : Type} : DataW H → Nat
  | .lit (.string bytes) => bytes.length + 1
  | .lit _ => 1
  | .nil => 1
  | .ptr d => uptoBulk d + 1
  | .slice elems spare => uptoBulkAll elems + uptoBulkAll spare + 1
  | .agg parts => uptoBulkAll parts + 1
  | .iface _ d => uptoBulk d + 1
  | .map entries => uptoBulkEntries entries + 1
  | .held _ => 1
def uptoBulkAll {H : Type} : List (DataW H) → Nat
  | [] => 0
  | d :: r => uptoBulk d + uptoBulkAll r
def uptoBulkEntries {H : Type} : List (Lit × DataW H) → Nat
  | [] => 0
  | x :: r => uptoBulkEntry x + uptoBulkEntries r
def uptoBulkEntry {H : Type} : Lit × DataW H → Nat
  | (.string bytes, d) => bytes.length + uptoBulk d + 1
  | (_, d) => uptoBulk d + 1
 end
def uptoSmall : (H : Type) → List (DataW H) → Bool := fun _ ds => decide (uptoBulkAll ds ≤ 1048576)
def OpenSpec.upto (s : _root_.Go.ChangeSpec) : _root_.Go.OpenSpec := { _root_.Go.OpenSpec.ofChange s with cond := some uptoSmall }

/-- 'freshetlaw21.WindowAssign', WHERE WHAT IT READS IS OF BULK AT MOST 1048576: true; the input reads as it did. -/
def windowAssignUptoRow : OpenClaim := { program := "ytgpmceimhfkncaa", sum := "44bd2cb04a055cf59294fdae2634f1ab955ca1758d743aa67164f85ad2c2114f", func := "freshet/freshetlaw21.WindowAssign", spec := "windowAssign", unfollowed := true, recurses := true, apart := false, narrowed := true }
def WindowAssignUptoSaid : Prop := windowAssignUptoRow.holds Try.pinned (OpenSpec.upto windowAssignSpec)

/-- 'freshetlaw21.WindowMerge', WHERE WHAT IT READS IS OF BULK AT MOST 1048576: true; the input reads as it did. -/
def windowMergeUptoRow : OpenClaim := { program := "ytgpmceimhfkncaa", sum := "44bd2cb04a055cf59294fdae2634f1ab955ca1758d743aa67164f85ad2c2114f", func := "freshet/freshetlaw21.WindowMerge", spec := "windowMerge", unfollowed := true, recurses := true, apart := false, narrowed := true }
def WindowMergeUptoSaid : Prop := windowMergeUptoRow.holds Try.pinned (OpenSpec.upto windowMergeSpec)

/-- 'freshetlaw21.WindowHolds', WHERE WHAT IT READS IS OF BULK AT MOST 1048576: true; the input reads as it did. -/
def windowHoldsUptoRow : OpenClaim := { program := "ytgpmceimhfkncaa", sum := "44bd2cb04a055cf59294fdae2634f1ab955ca1758d743aa67164f85ad2c2114f", func := "freshet/freshetlaw21.WindowHolds", spec := "windowHolds", unfollowed := true, recurses := true, apart := false, narrowed := true }
def WindowHoldsUptoSaid : Prop := windowHoldsUptoRow.holds Try.pinned (OpenSpec.upto windowHoldsSpec)

/-- 'freshetlaw21.WindowSessions', WHERE WHAT IT READS IS OF BULK AT MOST 1048576: true; the input reads as it did. -/
def windowSessionsUptoRow : OpenClaim := { program := "ytgpmceimhfkncaa", sum := "44bd2cb04a055cf59294fdae2634f1ab955ca1758d743aa67164f85ad2c2114f", func := "freshet/freshetlaw21.WindowSessions", spec := "windowSessions", unfollowed := true, recurses := true, apart := false, narrowed := true }
def WindowSessionsUptoSaid : Prop := windowSessionsUptoRow.holds Try.pinned (OpenSpec.upto windowSessionsSpec)

/-- 'freshetlaw21.WindowTiles', WHERE WHAT IT READS IS OF BULK AT MOST 1048576: true; the input reads as it did. -/
def windowTilesUptoRow : OpenClaim := { program := "ytgpmceimhfkncaa", sum := "44bd2cb04a055cf59294fdae2634f1ab955ca1758d743aa67164f85ad2c2114f", func := "freshet/freshetlaw21.WindowTiles", spec := "windowTiles", unfollowed := true, recurses := true, apart := false, narrowed := true }
def WindowTilesUptoSaid : Prop := windowTilesUptoRow.holds Try.pinned (OpenSpec.upto windowTilesSpec)

/-- 'freshetlaw21.WindowMoved', WHERE WHAT IT READS IS OF BULK AT MOST 1048576: true; the input reads as it did. -/
def windowMovedUptoRow : OpenClaim := { program := "ytgpmceimhfkncaa", sum := "44bd2cb04a055cf59294fdae2634f1ab955ca1758d743aa67164f85ad2c2114f", func := "freshet/freshetlaw21.WindowMoved", spec := "windowMoved", unfollowed := true, recurses := true, apart := false, narrowed := true }
def WindowMovedUptoSaid : Prop := windowMovedUptoRow.holds Try.pinned (OpenSpec.upto windowMovedSpec)

/-- 'freshetlaw21.WindowWithin', WHERE WHAT IT READS IS OF BULK AT MOST 1048576: true; the input reads as it did. -/
def windowWithinUptoRow : OpenClaim := { program := "ytgpmceimhfkncaa", sum := "44bd2cb04a055cf59294fdae2634f1ab955ca1758d743aa67164f85ad2c2114f", func := "freshet/freshetlaw21.WindowWithin", spec := "windowWithin", unfollowed := true, recurses := true, apart := false, narrowed := true }
def WindowWithinUptoSaid : Prop := windowWithinUptoRow.holds Try.pinned (OpenSpec.upto windowWithinSpec)

/-- 'freshetlaw21.WindowText', WHERE WHAT IT READS IS OF BULK AT MOST 1048576: true; the input reads as it did. -/
def windowTextUptoRow : OpenClaim := { program := "ytgpmceimhfkncaa", sum := "44bd2cb04a055cf59294fdae2634f1ab955ca1758d743aa67164f85ad2c2114f", func := "freshet/freshetlaw21.WindowText", spec := "windowText", unfollowed := true, recurses := true, apart := false, narrowed := true }
def WindowTextUptoSaid : Prop := windowTextUptoRow.holds Try.pinned (OpenSpec.upto windowTextSpec)

/-- 'freshetlaw21.WindowOrder', WHERE WHAT IT READS IS OF BULK AT MOST 1048576: true; the input reads as it did. -/
def windowOrderUptoRow : OpenClaim := { program := "ytgpmceimhfkncaa", sum := "44bd2cb04a055cf59294fdae2634f1ab955ca1758d743aa67164f85ad2c2114f", func := "freshet/freshetlaw21.WindowOrder", spec := "windowOrder", unfollowed := true, recurses := true, apart := false, narrowed := true }
def WindowOrderUptoSaid : Prop := windowOrderUptoRow.holds Try.pinned (OpenSpec.upto windowOrderSpec)

end Rows
end Go.Proofs.Ytgpmceimhfkncaa
