/- The law SharesAdd, walked. Conditions: as each theorem states them. -/
import Derived.Test.YtmalcekbhnkfgaaF1
namespace Go.Proofs.Ytmalcekbhnkfgaa
open Go.RowKit Go.Maps
set_option linter.unusedVariables false
set_option linter.unusedSimpArgs false

theorem add_walk (A : Option Addr) (c : Nat) (l : List Pt) (q : Pt) (W : World) (o : RdP W W.heap.size A l ∧ l.length ≤ c ∧ l.length ≤ maxLen ∧ (A = none → c = 0) ∧ okA l)
    (k : RdS W W.heap.size q.A q.fs ∧ q.fs.length ≤ q.c ∧ (q.A = none → q.c = 0)) :
    Calls Try.prog 3 #[.slice A l.length c, ptV q] W fun e w' => e = .returned (.bool true) ∧ Below W.heap.size W w' :=
  sadd_small A l.length c l q W rfl o.1 o.2.2.2.1 o.2.2.2.2 k.1 k.2.1 k.2.2
end Go.Proofs.Ytmalcekbhnkfgaa
