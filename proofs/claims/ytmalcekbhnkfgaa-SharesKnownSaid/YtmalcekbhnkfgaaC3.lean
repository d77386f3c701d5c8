/- The law SharesKnown, walked. Conditions: as each theorem states them. -/
import Derived.Test.YtmalcekbhnkfgaaC1
import Derived.Test.YtmalcekbhnkfgaaC2
namespace Go.Proofs.Ytmalcekbhnkfgaa
open Go.RowKit Go.Maps
set_option linter.unusedVariables false
set_option linter.unusedSimpArgs false

theorem known_walk (A : Option Addr) (c : Nat) (l : List Pt) (a b d e : Int) (W : World) (o : RdP W W.heap.size A l ∧ l.length ≤ c ∧ l.length ≤ maxLen)
    (ha : (Lit.int .u64 a).wf = true) (hb : (Lit.int .i64 b).wf = true) (hd : (Lit.int .u32 d).wf = true) (he : (Lit.int .u64 e).wf = true) :
    Calls Try.prog 6 #[.slice A l.length c, .agg #[.int .u64 a, .int .i64 b, .int .u32 d, .int .u64 e]] W fun e w' => e = .returned (.bool true) ∧ Below W.heap.size W w' :=
  sknown_small A l.length c l ⟨a, b, d, e, ha, hb, hd, he⟩ W rfl o.1
end Go.Proofs.Ytmalcekbhnkfgaa
