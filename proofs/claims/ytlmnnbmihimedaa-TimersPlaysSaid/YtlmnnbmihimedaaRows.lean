/-
  No cell of these rows narrows 'for every input' (looked for: loops, veiled, ifaces, maps, wideKeys, modest, calm, conditions, laid).
  DERIVED. THE GIVEN ROWS OF THIS SEAT. 8 by the template 'for every input the law returns true; each argument reads behind the call as it read before'; 0 by the template 'total and deterministic' (their statements: YtlmnnbmihimedaaTotals.lean).
  GIVEN WITH THE SEED: the statements are not yours to turn. If you find one false, say at which input.
  Laid BY PROGRAM, IN A SANDBOX (cutbox-rows.mjs): the forced cells as the released guide's own fill.sh prints them over the translation 02477ec8ffd3e752… (all of the seat's roots in one cut). By AI agents, Wed Nov 11 2026. No macro, syntax, notation, axiom, sorry.
-/
import Derived.Test.YtlmnnbmihimedaaChecked
import GoSem.Claim
import GoSem.ClaimJoined
import GoSem.ClaimMapViews
import Derived.JoinedTies
import Derived.KernelRfl
namespace Go.Proofs.Ytlmnnbmihimedaa
/- THE CELL 'sum', in the pinned program and in every row, IS THE sha256 OF THE DUMP (.gsa) THAT YtlmnnbmihimedaaProg.lean LOADS. Nothing in Lean hashes anything: it is a label: what it is worth is what the hold of that sum in a sandbox is worth. -/
noncomputable def Try.pinned : Pinned := { name := "ytlmnnbmihimedaa", sum := "02477ec8ffd3e7527a73afa0005aa869fae93ba4b5bac28c1f55453a7c6912b7", checked := Try.checked }
namespace Rows
def none {H : Type} : Left H := { results := [], args := [] }

/-- 'freshetlaw22.TimersCmp': WHATEVER THE INPUT: true; the input reads as it did. -/
def timersCmpSpec : ChangeSpec := { name := "timersCmp", fn := fun _ => fun
  | [d1, d2] => { results := [.lit (.bool true)], args := [d1, d2] }
  | _ => none }
def timersCmpRow : OpenClaim := { program := "ytlmnnbmihimedaa", sum := "02477ec8ffd3e7527a73afa0005aa869fae93ba4b5bac28c1f55453a7c6912b7", func := "freshet/freshetlaw22.TimersCmp", spec := "timersCmp", unfollowed := true, recurses := true, plainKeys := false, apart := false }
def TimersCmpSaid : Prop := timersCmpRow.holds Try.pinned (OpenSpec.ofChange timersCmpSpec)

/-- ITS FALSE NEIGHBOUR: 'it returns false'. Refute it at one input. -/
def timersCmpWrong : ChangeSpec := { name := "timersCmp", fn := fun _ => fun
  | [d1, d2] => { results := [.lit (.bool false)], args := [d1, d2] }
  | _ => none }
def TimersCmpWrongFalsely : Prop := timersCmpRow.holds Try.pinned (OpenSpec.ofChange timersCmpWrong)

/-- 'freshetlaw22.TimersOrder': WHATEVER THE INPUT: true; the input reads as it did. -/
def timersOrderSpec : ChangeSpec := { name := "timersOrder", fn := fun _ => fun
  | [d1, d2, d3] => { results := [.lit (.bool true)], args := [d1, d2, d3] }
  | _ => none }
def timersOrderRow : OpenClaim := { program := "ytlmnnbmihimedaa", sum := "02477ec8ffd3e7527a73afa0005aa869fae93ba4b5bac28c1f55453a7c6912b7", func := "freshet/freshetlaw22.TimersOrder", spec := "timersOrder", unfollowed := true, recurses := true, plainKeys := false, apart := false }
def TimersOrderSaid : Prop := timersOrderRow.holds Try.pinned (OpenSpec.ofChange timersOrderSpec)

/-- ITS FALSE NEIGHBOUR: 'it returns false'. Refute it at one input. -/
def timersOrderWrong : ChangeSpec := { name := "timersOrder", fn := fun _ => fun
  | [d1, d2, d3] => { results := [.lit (.bool false)], args := [d1, d2, d3] }
  | _ => none }
def TimersOrderWrongFalsely : Prop := timersOrderRow.holds Try.pinned (OpenSpec.ofChange timersOrderWrong)

/-- 'freshetlaw22.TimersParted': WHATEVER THE INPUT: true; the input reads as it did. -/
def timersPartedSpec : ChangeSpec := { name := "timersParted", fn := fun _ => fun
  | [d1, d2, d3] => { results := [.lit (.bool true)], args := [d1, d2, d3] }
  | _ => none }
def timersPartedRow : OpenClaim := { program := "ytlmnnbmihimedaa", sum := "02477ec8ffd3e7527a73afa0005aa869fae93ba4b5bac28c1f55453a7c6912b7", func := "freshet/freshetlaw22.TimersParted", spec := "timersParted", unfollowed := true, recurses := true, plainKeys := false, apart := false }
def TimersPartedSaid : Prop := timersPartedRow.holds Try.pinned (OpenSpec.ofChange timersPartedSpec)

/-- ITS FALSE NEIGHBOUR: 'it returns false'. Refute it at one input. -/
def timersPartedWrong : ChangeSpec := { name := "timersParted", fn := fun _ => fun
  | [d1, d2, d3] => { results := [.lit (.bool false)], args := [d1, d2, d3] }
  | _ => none }
def TimersPartedWrongFalsely : Prop := timersPartedRow.holds Try.pinned (OpenSpec.ofChange timersPartedWrong)

/-- 'freshetlaw22.TimersDue': WHATEVER THE INPUT: true; the input reads as it did. -/
def timersDueSpec : ChangeSpec := { name := "timersDue", fn := fun _ => fun
  | [d1, d2] => { results := [.lit (.bool true)], args := [d1, d2] }
  | _ => none }
def timersDueRow : OpenClaim := { program := "ytlmnnbmihimedaa", sum := "02477ec8ffd3e7527a73afa0005aa869fae93ba4b5bac28c1f55453a7c6912b7", func := "freshet/freshetlaw22.TimersDue", spec := "timersDue", unfollowed := true, recurses := true, plainKeys := false, apart := false }
def TimersDueSaid : Prop := timersDueRow.holds Try.pinned (OpenSpec.ofChange timersDueSpec)

/-- ITS FALSE NEIGHBOUR: 'it returns false'. Refute it at one input. -/
def timersDueWrong : ChangeSpec := { name := "timersDue", fn := fun _ => fun
  | [d1, d2] => { results := [.lit (.bool false)], args := [d1, d2] }
  | _ => none }
def TimersDueWrongFalsely : Prop := timersDueRow.holds Try.pinned (OpenSpec.ofChange timersDueWrong)

/-- 'freshetlaw22.TimersPlays': WHATEVER THE INPUT: true; the input reads as it did. -/
def timersPlaysSpec : ChangeSpec := { name := "timersPlays", fn := fun _ => fun
  | [d] => { results := [.lit (.bool true)], args := [d] }
  | _ => none }
def timersPlaysRow : OpenClaim := { program := "ytlmnnbmihimedaa", sum := "02477ec8ffd3e7527a73afa0005aa869fae93ba4b5bac28c1f55453a7c6912b7", func := "freshet/freshetlaw22.TimersPlays", spec := "timersPlays", unfollowed := true, recurses := true, plainKeys := false, apart := false }
def TimersPlaysSaid : Prop := timersPlaysRow.holds Try.pinned (OpenSpec.ofChange timersPlaysSpec)

/-- ITS FALSE NEIGHBOUR: 'it returns false'. Refute it at one input. -/
def timersPlaysWrong : ChangeSpec := { name := "timersPlays", fn := fun _ => fun
  | [d] => { results := [.lit (.bool false)], args := [d] }
  | _ => none }
def TimersPlaysWrongFalsely : Prop := timersPlaysRow.holds Try.pinned (OpenSpec.ofChange timersPlaysWrong)

/-- 'freshetlaw22.TimersMany': WHATEVER THE INPUT: true; the input reads as it did. -/
def timersManySpec : ChangeSpec := { name := "timersMany", fn := fun _ => fun
  | [d1, d2] => { results := [.lit (.bool true)], args := [d1, d2] }
  | _ => none }
def timersManyRow : OpenClaim := { program := "ytlmnnbmihimedaa", sum := "02477ec8ffd3e7527a73afa0005aa869fae93ba4b5bac28c1f55453a7c6912b7", func := "freshet/freshetlaw22.TimersMany", spec := "timersMany", unfollowed := true, recurses := true, plainKeys := false, apart := false }
def TimersManySaid : Prop := timersManyRow.holds Try.pinned (OpenSpec.ofChange timersManySpec)

/-- ITS FALSE NEIGHBOUR: 'it returns false'. Refute it at one input. -/
def timersManyWrong : ChangeSpec := { name := "timersMany", fn := fun _ => fun
  | [d1, d2] => { results := [.lit (.bool false)], args := [d1, d2] }
  | _ => none }
def TimersManyWrongFalsely : Prop := timersManyRow.holds Try.pinned (OpenSpec.ofChange timersManyWrong)

/-- 'freshetlaw22.TimersNone': WHATEVER THE INPUT: true; the input reads as it did. -/
def timersNoneSpec : ChangeSpec := { name := "timersNone", fn := fun _ => fun
  | [d] => { results := [.lit (.bool true)], args := [d] }
  | _ => none }
def timersNoneRow : OpenClaim := { program := "ytlmnnbmihimedaa", sum := "02477ec8ffd3e7527a73afa0005aa869fae93ba4b5bac28c1f55453a7c6912b7", func := "freshet/freshetlaw22.TimersNone", spec := "timersNone", unfollowed := true, recurses := true, plainKeys := false, apart := false }
def TimersNoneSaid : Prop := timersNoneRow.holds Try.pinned (OpenSpec.ofChange timersNoneSpec)

/-- ITS FALSE NEIGHBOUR: 'it returns false'. Refute it at one input. -/
def timersNoneWrong : ChangeSpec := { name := "timersNone", fn := fun _ => fun
  | [d] => { results := [.lit (.bool false)], args := [d] }
  | _ => none }
def TimersNoneWrongFalsely : Prop := timersNoneRow.holds Try.pinned (OpenSpec.ofChange timersNoneWrong)

/-- 'freshetlaw22.TimersAny': WHATEVER THE INPUT: true; the input reads as it did. -/
def timersAnySpec : ChangeSpec := { name := "timersAny", fn := fun _ => fun
  | [d1, d2] => { results := [.lit (.bool true)], args := [d1, d2] }
  | _ => none }
def timersAnyRow : OpenClaim := { program := "ytlmnnbmihimedaa", sum := "02477ec8ffd3e7527a73afa0005aa869fae93ba4b5bac28c1f55453a7c6912b7", func := "freshet/freshetlaw22.TimersAny", spec := "timersAny", unfollowed := true, recurses := true, plainKeys := false, apart := false }
def TimersAnySaid : Prop := timersAnyRow.holds Try.pinned (OpenSpec.ofChange timersAnySpec)

/-- ITS FALSE NEIGHBOUR: 'it returns false'. Refute it at one input. -/
def timersAnyWrong : ChangeSpec := { name := "timersAny", fn := fun _ => fun
  | [d1, d2] => { results := [.lit (.bool false)], args := [d1, d2] }
  | _ => none }
def TimersAnyWrongFalsely : Prop := timersAnyRow.holds Try.pinned (OpenSpec.ofChange timersAnyWrong)

/- THE SECOND FORM. 'bulk': how many values and letters a reading holds, each counted each time it is reached (what is shared counts as often as it is met; a slice's spare places count too). A statement '..UptoSaid' is the law's where the arguments, and the package variables that the reading takes, are together of bulk at most 1048576: NARROWER than '..Said'. Prove '..Said' where nothing that the law and all that it calls make is longer than what came in: it says more and counts as full. Else prove '..UptoSaid'. A law counts once. -/
mutual
def uptoBulk {H : Type} : DataW H → Nat
  | .lit (.string bytes) => bytes.length + 1
  | .lit _ => 1
  | .nil => 1
  | .ptr d => uptoBulk d + 1
  | .slice elems spare => uptoBulkAll elems + uptoBulkAll spare + 1
  | .agg parts => uptoBulkAll parts + 1
  | .iface _ d => uptoBulk d + 1
  | .map entries => uptoBulkEntries entries + 1
  | .held _ => 1
def uptoBulkAll {H : Type} : List (DataW H) → Nat
  | [] => 0
  | d :: r => uptoBulk d + uptoBulkAll r
def uptoBulkEntries {H : Type} : List (Lit × DataW H) → Nat
  | [] => 0
  | x :: r => uptoBulkEntry x + uptoBulkEntries r
def uptoBulkEntry {H : Type} : Lit × DataW H → Nat
  | (.string bytes, d) => bytes.length + uptoBulk d + 1
  | (_, d) => uptoBulk d + 1
 end
def uptoSmall : (H : Type) → List (DataW H) → Bool := fun _ ds => decide (uptoBulkAll ds ≤ 1048576)
def OpenSpec.upto (s : _root_.Go.ChangeSpec) : _root_.Go.OpenSpec := { _root_.Go.OpenSpec.ofChange s with cond := some uptoSmall }

/-- 'freshetlaw22.TimersCmp', WHERE WHAT IT READS IS OF BULK AT MOST 1048576: true; the input reads as it did. -/
def timersCmpUptoRow : OpenClaim := { program := "ytlmnnbmihimedaa", sum := "02477ec8ffd3e7527a73afa0005aa869fae93ba4b5bac28c1f55453a7c6912b7", func := "freshet/freshetlaw22.TimersCmp", spec := "timersCmp", unfollowed := true, recurses := true, plainKeys := false, apart := false, narrowed := true }
def TimersCmpUptoSaid : Prop := timersCmpUptoRow.holds Try.pinned (OpenSpec.upto timersCmpSpec)

/-- 'freshetlaw22.TimersOrder', WHERE WHAT IT READS IS OF BULK AT MOST 1048576: true; the input reads as it did. -/
def timersOrderUptoRow : OpenClaim := { program := "ytlmnnbmihimedaa", sum := "02477ec8ffd3e7527a73afa0005aa869fae93ba4b5bac28c1f55453a7c6912b7", func := "freshet/freshetlaw22.TimersOrder", spec := "timersOrder", unfollowed := true, recurses := true, plainKeys := false, apart := false, narrowed := true }
def TimersOrderUptoSaid : Prop := timersOrderUptoRow.holds Try.pinned (OpenSpec.upto timersOrderSpec)

/-- 'freshetlaw22.TimersParted', WHERE WHAT IT READS IS OF BULK AT MOST 1048576: true; the input reads as it did. -/
def timersPartedUptoRow : OpenClaim := { program := "ytlmnnbmihimedaa", sum := "02477ec8ffd3e7527a73afa0005aa869fae93ba4b5bac28c1f55453a7c6912b7", func := "freshet/freshetlaw22.TimersParted", spec := "timersParted", unfollowed := true, recurses := true, plainKeys := false, apart := false, narrowed := true }
def TimersPartedUptoSaid : Prop := timersPartedUptoRow.holds Try.pinned (OpenSpec.upto timersPartedSpec)

/-- 'freshetlaw22.TimersDue', WHERE WHAT IT READS IS OF BULK AT MOST 1048576: true; the input reads as it did. -/
def timersDueUptoRow : OpenClaim := { program := "ytlmnnbmihimedaa", sum := "02477ec8ffd3e7527a73afa0005aa869fae93ba4b5bac28c1f55453a7c6912b7", func := "freshet/freshetlaw22.TimersDue", spec := "timersDue", unfollowed := true, recurses := true, plainKeys := false, apart := false, narrowed := true }
def TimersDueUptoSaid : Prop := timersDueUptoRow.holds Try.pinned (OpenSpec.upto timersDueSpec)

/-- 'freshetlaw22.TimersPlays', WHERE WHAT IT READS IS OF BULK AT MOST 1048576: true; the input reads as it did. -/
def timersPlaysUptoRow : OpenClaim := { program := "ytlmnnbmihimedaa", sum := "02477ec8ffd3e7527a73afa0005aa869fae93ba4b5bac28c1f55453a7c6912b7", func := "freshet/freshetlaw22.TimersPlays", spec := "timersPlays", unfollowed := true, recurses := true, plainKeys := false, apart := false, narrowed := true }
def TimersPlaysUptoSaid : Prop := timersPlaysUptoRow.holds Try.pinned (OpenSpec.upto timersPlaysSpec)

/-- 'freshetlaw22.TimersMany', WHERE WHAT IT READS IS OF BULK AT MOST 1048576: true; the input reads as it did. -/
def timersManyUptoRow : OpenClaim := { program := "ytlmnnbmihimedaa", sum := "02477ec8ffd3e7527a73afa0005aa869fae93ba4b5bac28c1f55453a7c6912b7", func := "freshet/freshetlaw22.TimersMany", spec := "timersMany", unfollowed := true, recurses := true, plainKeys := false, apart := false, narrowed := true }
def TimersManyUptoSaid : Prop := timersManyUptoRow.holds Try.pinned (OpenSpec.upto timersManySpec)

/-- 'freshetlaw22.TimersNone', WHERE WHAT IT READS IS OF BULK AT MOST 1048576: true; the input reads as it did. -/
def timersNoneUptoRow : OpenClaim := { program := "ytlmnnbmihimedaa", sum := "02477ec8ffd3e7527a73afa0005aa869fae93ba4b5bac28c1f55453a7c6912b7", func := "freshet/freshetlaw22.TimersNone", spec := "timersNone", unfollowed := true, recurses := true, plainKeys := false, apart := false, narrowed := true }
def TimersNoneUptoSaid : Prop := timersNoneUptoRow.holds Try.pinned (OpenSpec.upto timersNoneSpec)

/-- 'freshetlaw22.TimersAny', WHERE WHAT IT READS IS OF BULK AT MOST 1048576: true; the input reads as it did. -/
def timersAnyUptoRow : OpenClaim := { program := "ytlmnnbmihimedaa", sum := "02477ec8ffd3e7527a73afa0005aa869fae93ba4b5bac28c1f55453a7c6912b7", func := "freshet/freshetlaw22.TimersAny", spec := "timersAny", unfollowed := true, recurses := true, plainKeys := false, apart := false, narrowed := true }
def TimersAnyUptoSaid : Prop := timersAnyUptoRow.holds Try.pinned (OpenSpec.upto timersAnySpec)

end Rows
end Go.Proofs.Ytlmnnbmihimedaa
