/-
  No cell of these rows narrows 'for every input' (looked for: loops, veiled, ifaces, maps, wideKeys, modest, calm, conditions, laid).
  DERIVED. THE GIVEN ROWS OF THIS SEAT. 7 by the template 'for every input the law returns true; each argument reads behind the call as it read before'; 0 by the template 'total and deterministic' (their statements: YtmalcekbhnkfgaaTotals.lean).
  GIVEN WITH THE SEED: the statements are not yours to turn. If you find one false, say at which input.
  Laid BY PROGRAM, IN A SANDBOX (cutbox-rows.mjs): the forced cells as the released guide's own fill.sh prints them over the translation a3b0563d10c4997c… (all of the seat's roots in one cut). By AI agents, Wed Nov 11 2026. No macro, syntax, notation, axiom, sorry.
-/
import Derived.Test.YtmalcekbhnkfgaaChecked
import GoSem.Claim
import GoSem.ClaimJoined
import GoSem.ClaimMapViews
import Derived.JoinedTies
import Derived.KernelRfl
namespace Go.Proofs.Ytmalcekbhnkfgaa
/- THE CELL 'sum', in the pinned program and in every row, IS THE sha256 OF THE DUMP (.gsa) THAT YtmalcekbhnkfgaaProg.lean LOADS. Nothing in Lean hashes anything: it is a label: what it is worth is what the hold of that sum in a sandbox is worth. -/
noncomputable def Try.pinned : Pinned := { name := "ytmalcekbhnkfgaa", sum := "a3b0563d10c4997c1c4e24686a145a8eff0873c02f35056e86301d67d36ced42", checked := Try.checked }
namespace Rows
def none {H : Type} : Left H := { results := [], args := [] }

/-- 'freshetlaw18.SharesAdd': WHATEVER THE INPUT: true; the input reads as it did. -/
def sharesAddSpec : ChangeSpec := { name := "sharesAdd", fn := fun _ => fun
  | [d1, d2] => { results := [.lit (.bool true)], args := [d1, d2] }
  | _ => none }
def sharesAddRow : OpenClaim := { program := "ytmalcekbhnkfgaa", sum := "a3b0563d10c4997c1c4e24686a145a8eff0873c02f35056e86301d67d36ced42", func := "freshet/freshetlaw18.SharesAdd", spec := "sharesAdd", unfollowed := true, recurses := true, apart := false }
def SharesAddSaid : Prop := sharesAddRow.holds Try.pinned (OpenSpec.ofChange sharesAddSpec)

/-- ITS FALSE NEIGHBOUR: 'it returns false'. Refute it at one input. -/
def sharesAddWrong : ChangeSpec := { name := "sharesAdd", fn := fun _ => fun
  | [d1, d2] => { results := [.lit (.bool false)], args := [d1, d2] }
  | _ => none }
def SharesAddWrongFalsely : Prop := sharesAddRow.holds Try.pinned (OpenSpec.ofChange sharesAddWrong)

/-- 'freshetlaw18.SharesLoose': WHATEVER THE INPUT: true; the input reads as it did. -/
def sharesLooseSpec : ChangeSpec := { name := "sharesLoose", fn := fun _ => fun
  | [d1, d2] => { results := [.lit (.bool true)], args := [d1, d2] }
  | _ => none }
def sharesLooseRow : OpenClaim := { program := "ytmalcekbhnkfgaa", sum := "a3b0563d10c4997c1c4e24686a145a8eff0873c02f35056e86301d67d36ced42", func := "freshet/freshetlaw18.SharesLoose", spec := "sharesLoose", unfollowed := true, recurses := true, apart := false }
def SharesLooseSaid : Prop := sharesLooseRow.holds Try.pinned (OpenSpec.ofChange sharesLooseSpec)

/-- ITS FALSE NEIGHBOUR: 'it returns false'. Refute it at one input. -/
def sharesLooseWrong : ChangeSpec := { name := "sharesLoose", fn := fun _ => fun
  | [d1, d2] => { results := [.lit (.bool false)], args := [d1, d2] }
  | _ => none }
def SharesLooseWrongFalsely : Prop := sharesLooseRow.holds Try.pinned (OpenSpec.ofChange sharesLooseWrong)

/-- 'freshetlaw18.SharesTells': WHATEVER THE INPUT: true; the input reads as it did. -/
def sharesTellsSpec : ChangeSpec := { name := "sharesTells", fn := fun _ => fun
  | [d1, d2, d3] => { results := [.lit (.bool true)], args := [d1, d2, d3] }
  | _ => none }
def sharesTellsRow : OpenClaim := { program := "ytmalcekbhnkfgaa", sum := "a3b0563d10c4997c1c4e24686a145a8eff0873c02f35056e86301d67d36ced42", func := "freshet/freshetlaw18.SharesTells", spec := "sharesTells", unfollowed := true, recurses := true, apart := false }
def SharesTellsSaid : Prop := sharesTellsRow.holds Try.pinned (OpenSpec.ofChange sharesTellsSpec)

/-- ITS FALSE NEIGHBOUR: 'it returns false'. Refute it at one input. -/
def sharesTellsWrong : ChangeSpec := { name := "sharesTells", fn := fun _ => fun
  | [d1, d2, d3] => { results := [.lit (.bool false)], args := [d1, d2, d3] }
  | _ => none }
def SharesTellsWrongFalsely : Prop := sharesTellsRow.holds Try.pinned (OpenSpec.ofChange sharesTellsWrong)

/-- 'freshetlaw18.SharesKnown': WHATEVER THE INPUT: true; the input reads as it did. -/
def sharesKnownSpec : ChangeSpec := { name := "sharesKnown", fn := fun _ => fun
  | [d1, d2] => { results := [.lit (.bool true)], args := [d1, d2] }
  | _ => none }
def sharesKnownRow : OpenClaim := { program := "ytmalcekbhnkfgaa", sum := "a3b0563d10c4997c1c4e24686a145a8eff0873c02f35056e86301d67d36ced42", func := "freshet/freshetlaw18.SharesKnown", spec := "sharesKnown", unfollowed := true, recurses := true, apart := false }
def SharesKnownSaid : Prop := sharesKnownRow.holds Try.pinned (OpenSpec.ofChange sharesKnownSpec)

/-- ITS FALSE NEIGHBOUR: 'it returns false'. Refute it at one input. -/
def sharesKnownWrong : ChangeSpec := { name := "sharesKnown", fn := fun _ => fun
  | [d1, d2] => { results := [.lit (.bool false)], args := [d1, d2] }
  | _ => none }
def SharesKnownWrongFalsely : Prop := sharesKnownRow.holds Try.pinned (OpenSpec.ofChange sharesKnownWrong)

/-- 'freshetlaw18.SharesDrop': WHATEVER THE INPUT: true; the input reads as it did. -/
def sharesDropSpec : ChangeSpec := { name := "sharesDrop", fn := fun _ => fun
  | [d1, d2] => { results := [.lit (.bool true)], args := [d1, d2] }
  | _ => none }
def sharesDropRow : OpenClaim := { program := "ytmalcekbhnkfgaa", sum := "a3b0563d10c4997c1c4e24686a145a8eff0873c02f35056e86301d67d36ced42", func := "freshet/freshetlaw18.SharesDrop", spec := "sharesDrop", unfollowed := true, recurses := true, apart := false }
def SharesDropSaid : Prop := sharesDropRow.holds Try.pinned (OpenSpec.ofChange sharesDropSpec)

/-- ITS FALSE NEIGHBOUR: 'it returns false'. Refute it at one input. -/
def sharesDropWrong : ChangeSpec := { name := "sharesDrop", fn := fun _ => fun
  | [d1, d2] => { results := [.lit (.bool false)], args := [d1, d2] }
  | _ => none }
def SharesDropWrongFalsely : Prop := sharesDropRow.holds Try.pinned (OpenSpec.ofChange sharesDropWrong)

/-- 'freshetlaw18.SharesBack': WHATEVER THE INPUT: true; the input reads as it did. -/
def sharesBackSpec : ChangeSpec := { name := "sharesBack", fn := fun _ => fun
  | [d1, d2] => { results := [.lit (.bool true)], args := [d1, d2] }
  | _ => none }
def sharesBackRow : OpenClaim := { program := "ytmalcekbhnkfgaa", sum := "a3b0563d10c4997c1c4e24686a145a8eff0873c02f35056e86301d67d36ced42", func := "freshet/freshetlaw18.SharesBack", spec := "sharesBack", unfollowed := true, recurses := true, apart := false }
def SharesBackSaid : Prop := sharesBackRow.holds Try.pinned (OpenSpec.ofChange sharesBackSpec)

/-- ITS FALSE NEIGHBOUR: 'it returns false'. Refute it at one input. -/
def sharesBackWrong : ChangeSpec := { name := "sharesBack", fn := fun _ => fun
  | [d1, d2] => { results := [.lit (.bool false)], args := [d1, d2] }
  | _ => none }
def SharesBackWrongFalsely : Prop := sharesBackRow.holds Try.pinned (OpenSpec.ofChange sharesBackWrong)

/-- 'freshetlaw18.SharesEmpty': WHATEVER THE INPUT: true; the input reads as it did. -/
def sharesEmptySpec : ChangeSpec := { name := "sharesEmpty", fn := fun _ => fun
  | [d1, d2, d3] => { results := [.lit (.bool true)], args := [d1, d2, d3] }
  | _ => none }
def sharesEmptyRow : OpenClaim := { program := "ytmalcekbhnkfgaa", sum := "a3b0563d10c4997c1c4e24686a145a8eff0873c02f35056e86301d67d36ced42", func := "freshet/freshetlaw18.SharesEmpty", spec := "sharesEmpty", unfollowed := true, recurses := true, apart := false }
def SharesEmptySaid : Prop := sharesEmptyRow.holds Try.pinned (OpenSpec.ofChange sharesEmptySpec)

/-- ITS FALSE NEIGHBOUR: 'it returns false'. Refute it at one input. -/
def sharesEmptyWrong : ChangeSpec := { name := "sharesEmpty", fn := fun _ => fun
  | [d1, d2, d3] => { results := [.lit (.bool false)], args := [d1, d2, d3] }
  | _ => none }
def SharesEmptyWrongFalsely : Prop := sharesEmptyRow.holds Try.pinned (OpenSpec.ofChange sharesEmptyWrong)

/- THE SECOND FORM. 'bulk': how many values and letters a reading holds, each counted each time it is reached (what is shared counts as often as it is met; a slice's spare places count too). A statement '..UptoSaid' is the law's where the arguments, and the package variables that the reading takes, are together of bulk at most 1048576: NARROWER than '..Said'. Prove '..Said' where nothing that the law and all that it calls make is longer than what came in: it says more and counts as full. Else prove '..UptoSaid'. A law counts once. -/
mutual
def uptoBulk {H : Type} : DataW H → Nat
  | .lit (.string bytes) => bytes.length + 1
  | .lit _ => 1
  | .nil => 1
  | .ptr d => uptoBulk d + 1
  | .slice elems spare => uptoBulkAll elems + uptoBulkAll spare + 1
  | .agg parts => uptoBulkAll parts + 1
  | .iface _ d => uptoBulk d + 1
  | .map entries => uptoBulkEntries entries + 1
  | .held _ => 1
def uptoBulkAll {H : Type} : List (DataW H) → Nat
  | [] => 0
  | d :: r => uptoBulk d + uptoBulkAll r
def uptoBulkEntries {H : Type} : List (Lit × DataW H) → Nat
  | [] => 0
  | x :: r => uptoBulkEntry x + uptoBulkEntries r
def uptoBulkEntry {H : Type} : Lit × DataW H → Nat
  | (.string bytes, d) => bytes.length + uptoBulk d + 1
  | (_, d) => uptoBulk d + 1
 end
def uptoSmall : (H : Type) → List (DataW H) → Bool := fun _ ds => decide (uptoBulkAll ds ≤ 1048576)
def OpenSpec.upto (s : _root_.Go.ChangeSpec) : _root_.Go.OpenSpec := { _root_.Go.OpenSpec.ofChange s with cond := some uptoSmall }

/-- 'freshetlaw18.SharesAdd', WHERE WHAT IT READS IS OF BULK AT MOST 1048576: true; the input reads as it did. -/
def sharesAddUptoRow : OpenClaim := { program := "ytmalcekbhnkfgaa", sum := "a3b0563d10c4997c1c4e24686a145a8eff0873c02f35056e86301d67d36ced42", func := "freshet/freshetlaw18.SharesAdd", spec := "sharesAdd", unfollowed := true, recurses := true, apart := false, narrowed := true }
def SharesAddUptoSaid : Prop := sharesAddUptoRow.holds Try.pinned (OpenSpec.upto sharesAddSpec)

/-- 'freshetlaw18.SharesLoose', WHERE WHAT IT READS IS OF BULK AT MOST 1048576: true; the input reads as it did. -/
def sharesLooseUptoRow : OpenClaim := { program := "ytmalcekbhnkfgaa", sum := "a3b0563d10c4997c1c4e24686a145a8eff0873c02f35056e86301d67d36ced42", func := "freshet/freshetlaw18.SharesLoose", spec := "sharesLoose", unfollowed := true, recurses := true, apart := false, narrowed := true }
def SharesLooseUptoSaid : Prop := sharesLooseUptoRow.holds Try.pinned (OpenSpec.upto sharesLooseSpec)

/-- 'freshetlaw18.SharesTells', WHERE WHAT IT READS IS OF BULK AT MOST 1048576: true; the input reads as it did. -/
def sharesTellsUptoRow : OpenClaim := { program := "ytmalcekbhnkfgaa", sum := "a3b0563d10c4997c1c4e24686a145a8eff0873c02f35056e86301d67d36ced42", func := "freshet/freshetlaw18.SharesTells", spec := "sharesTells", unfollowed := true, recurses := true, apart := false, narrowed := true }
def SharesTellsUptoSaid : Prop := sharesTellsUptoRow.holds Try.pinned (OpenSpec.upto sharesTellsSpec)

/-- 'freshetlaw18.SharesKnown', WHERE WHAT IT READS IS OF BULK AT MOST 1048576: true; the input reads as it did. -/
def sharesKnownUptoRow : OpenClaim := { program := "ytmalcekbhnkfgaa", sum := "a3b0563d10c4997c1c4e24686a145a8eff0873c02f35056e86301d67d36ced42", func := "freshet/freshetlaw18.SharesKnown", spec := "sharesKnown", unfollowed := true, recurses := true, apart := false, narrowed := true }
def SharesKnownUptoSaid : Prop := sharesKnownUptoRow.holds Try.pinned (OpenSpec.upto sharesKnownSpec)

/-- 'freshetlaw18.SharesDrop', WHERE WHAT IT READS IS OF BULK AT MOST 1048576: true; the input reads as it did. -/
def sharesDropUptoRow : OpenClaim := { program := "ytmalcekbhnkfgaa", sum := "a3b0563d10c4997c1c4e24686a145a8eff0873c02f35056e86301d67d36ced42", func := "freshet/freshetlaw18.SharesDrop", spec := "sharesDrop", unfollowed := true, recurses := true, apart := false, narrowed := true }
def SharesDropUptoSaid : Prop := sharesDropUptoRow.holds Try.pinned (OpenSpec.upto sharesDropSpec)

/-- 'freshetlaw18.SharesBack', WHERE WHAT IT READS IS OF BULK AT MOST 1048576: true; the input reads as it did. -/
def sharesBackUptoRow : OpenClaim := { program := "ytmalcekbhnkfgaa", sum := "a3b0563d10c4997c1c4e24686a145a8eff0873c02f35056e86301d67d36ced42", func := "freshet/freshetlaw18.SharesBack", spec := "sharesBack", unfollowed := true, recurses := true, apart := false, narrowed := true }
def SharesBackUptoSaid : Prop := sharesBackUptoRow.holds Try.pinned (OpenSpec.upto sharesBackSpec)

/-- 'freshetlaw18.SharesEmpty', WHERE WHAT IT READS IS OF BULK AT MOST 1048576: true; the input reads as it did. -/
def sharesEmptyUptoRow : OpenClaim := { program := "ytmalcekbhnkfgaa", sum := "a3b0563d10c4997c1c4e24686a145a8eff0873c02f35056e86301d67d36ced42", func := "freshet/freshetlaw18.SharesEmpty", spec := "sharesEmpty", unfollowed := true, recurses := true, apart := false, narrowed := true }
def SharesEmptyUptoSaid : Prop := sharesEmptyUptoRow.holds Try.pinned (OpenSpec.upto sharesEmptySpec)

end Rows
end Go.Proofs.Ytmalcekbhnkfgaa
