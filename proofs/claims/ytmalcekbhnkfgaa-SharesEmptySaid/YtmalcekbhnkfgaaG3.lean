/- The law SharesEmpty, walked. Conditions: as each theorem states them. -/
import Derived.Test.YtmalcekbhnkfgaaG2
namespace Go.Proofs.Ytmalcekbhnkfgaa
open Go.RowKit Go.Maps
set_option linter.unusedVariables false
set_option linter.unusedSimpArgs false

theorem empty_walk (A : Option Addr) (c : Nat) (l : List Pt) (AT : Option Addr) (ct : Nat) (tt : List Int) (AS : Option Addr) (cs : Nat) (ss : List Int) (W : World) (o : RdP W W.heap.size A l ∧ l.length ≤ c ∧ l.length ≤ maxLen)
    (o1 : RdN W AT tt ∧ (∀ x ∈ tt, (Lit.int .i64 x).wf = true) ∧ tt.length ≤ ct ∧ tt.length ≤ maxLen) (o2 : RdI W W.heap.size AS ss ∧ ss.length ≤ cs ∧ ss.length ≤ maxLen) :
    Calls Try.prog 9 #[.slice A l.length c, .slice AT tt.length ct, .slice AS ss.length cs] W fun e w' => e = .returned (.bool true) ∧ Below W.heap.size W w' :=
  sempty_small A l.length c AT tt.length ct AS ss.length cs l tt ss W rfl rfl rfl o.1 o1.1 o2.1 o1.2.1
end Go.Proofs.Ytmalcekbhnkfgaa
