/- Contract of ref.Kept. Conditions: as each theorem states them. -/
import Derived.Test.YtmalcekbhnkfgaaE5
namespace Go.Proofs.Ytmalcekbhnkfgaa
open Go.RowKit Go.Maps Go.Shelf
set_option linter.unusedVariables false
set_option linter.unusedSimpArgs false

set_option maxRecDepth 100000 in
set_option maxHeartbeats 2000000 in
theorem kept_any (g c' : Nat) (A : Option Addr) (c n : Nat) (L l : List Pt) (w : World) (hL : L.length = n) (hl : l.length = n) (hn : n ≤ 100000) (hfn : ∀ p ∈ L, p.fs.length ≤ 1000000) (hc : n + 1 ≤ c')
    (hRL : RdP w w.heap.size (some ⟨g, 0, none⟩) L) (hRl : RdP w w.heap.size A l) (hg : g < w.heap.size) (hm : w.cell? ⟨g, n * 2, none⟩ = some (.int .u64 77)) :
    Calls Try.prog 18 #[.slice (some ⟨g, 0, none⟩) n c', .slice A n c] w fun e w' => e = .returned (.bool (eqP L l)) ∧ Below w.heap.size w w' := by
  have HS := Lib.hid (same_same (some ⟨g, 0, none⟩) A n c' c L l w hL hl (by omega) hfn hRL hRl)
  have HM := Lib.hid hm
  have hj0 : (0 : Int) ≤ (n : Int) + 1 := by omega
  have hj1 : (n : Int) + 1 ≤ (c' : Int) := by omega
  have hj2 : ((n : Int) + 1).toNat = n + 1 := by omega
  have hj3 : (n : Int) < (n : Int) + 1 := by omega
  have hj4 : (0 : Int) ≤ (n : Int) := by omega
  have hj5 : (n : Int) < ((n + 1 : Nat) : Int) := by omega
  have hj6 : (n : Int) ≤ 100000 := by omega
  clear hL hl hfn hRL hRl hm
  generalize eqP L l = q at *
  go_enter Try.func18, Try.ntmps18
  go_wp2_with (fail)
  refine HS.out.mono ?_
  rintro e w1 ⟨rfl, hb1⟩
  have m1 := (hb1.cell (p := ⟨g, n * 2, none⟩) hg).trans HM.out
  have hg1 : g < w1.heap.size := Nat.lt_of_lt_of_le hg hb1.size
  have HB1 := Lib.hid hb1
  clear hb1
  cases q with
  | false =>
    go_wp2_with (fail)
    go_ret
    exact ⟨rfl, HB1.out⟩
  | true =>
    go_wp2_with (fail)
    go_ret
    exact ⟨rfl, HB1.out⟩
end Go.Proofs.Ytmalcekbhnkfgaa
