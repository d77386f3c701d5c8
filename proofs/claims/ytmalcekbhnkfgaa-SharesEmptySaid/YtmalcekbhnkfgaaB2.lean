/- Contract of slices.Sort of few numbers. Conditions: as each theorem states them. -/
import Derived.Test.YtmalcekbhnkfgaaB1
namespace Go.Proofs.Ytmalcekbhnkfgaa
open Go.RowKit Go.Maps
set_option linter.unusedVariables false
set_option linter.unusedSimpArgs false

set_option maxRecDepth 100000 in
set_option maxHeartbeats 4000000 in
theorem pdq_few (b n cap : Nat) (lim : Int) (z0 : Nat → Int) (w : World) (hz : RowI w b n z0) (hn : n ≤ 12) (hnc : n ≤ cap) :
    Calls Try.prog 50 #[.slice (some ⟨b, 0, none⟩) n cap, .int .i64 0, .int .i64 n, .int .i64 lim] w fun e w' => e = .returned (.tuple #[]) ∧ (∃ z, RowI w' b n z ∧ ((List.range n).map z).Perm ((List.range n).map z0) ∧ Ord z n) ∧ Kw (fun x => x = b) w w' := by
  have HI := Lib.hid (insertion_any b n cap z0 w hz (by omega) hnc)
  have hn0 : (0 : Int) ≤ (n : Int) := by omega
  have hn1 : (n : Int) ≤ 12 := by omega
  clear hz
  go_enter Try.func50, Try.ntmps50
  go_wp2_with (fail)
  go_loopw [1, 2] (fun v1 v2 wr => v1 = .int .i64 0 ∧ v2 = .int .i64 n ∧ w = wr) (fun _ _ _ => 0)
  case atStart => exact ⟨rfl, rfl, rfl⟩
  case round =>
    obtain ⟨rfl, rfl, rfl⟩ := hrel
    go_wp2_with (fail)
    refine HI.out.mono ?_
    rintro e w2 ⟨rfl, hz2, hk2⟩
    have HZ2 := Lib.hid hz2
    have HK2 := Lib.hid hk2
    clear hz2 hk2
    go_wp2_with (fail)
    refine bodyPost_ret (results_none rfl _ _ _) rfl ?_
    exact ⟨rfl, HZ2.out, HK2.out⟩
set_option maxRecDepth 100000 in
set_option maxHeartbeats 4000000 in
theorem len64_0 (w : World) : Calls Try.prog 62 #[.int .u64 0] w fun e w' => ∃ k : Int, e = .returned (.int .i64 k) ∧ w = w' := by
  go_enter Try.func62, Try.ntmps62
  go_wp2_with (fail)
  go_ret
  exact ⟨_, rfl, rfl⟩
set_option maxRecDepth 100000 in
set_option maxHeartbeats 4000000 in
theorem len_0 (w : World) : Calls Try.prog 51 #[.int .u64 0] w fun e w' => ∃ k : Int, e = .returned (.int .i64 k) ∧ w = w' := by
  have H := Lib.hid (fun w => len64_0 w)
  go_enter Try.func51, Try.ntmps51
  go_wp2_with (fail)
  refine (H.out _).mono ?_
  rintro e w2 ⟨k, rfl, rfl⟩
  go_wp2_with (fail)
  go_ret
  exact ⟨_, rfl, rfl⟩
set_option maxRecDepth 100000 in
set_option maxHeartbeats 4000000 in
theorem len64_3 (w : World) : Calls Try.prog 62 #[.int .u64 3] w fun e w' => ∃ k : Int, e = .returned (.int .i64 k) ∧ w = w' := by
  go_enter Try.func62, Try.ntmps62
  go_wp2_with (fail)
  go_ret
  exact ⟨_, rfl, rfl⟩
set_option maxRecDepth 100000 in
set_option maxHeartbeats 4000000 in
theorem len_3 (w : World) : Calls Try.prog 51 #[.int .u64 3] w fun e w' => ∃ k : Int, e = .returned (.int .i64 k) ∧ w = w' := by
  have H := Lib.hid (fun w => len64_3 w)
  go_enter Try.func51, Try.ntmps51
  go_wp2_with (fail)
  refine (H.out _).mono ?_
  rintro e w2 ⟨k, rfl, rfl⟩
  go_wp2_with (fail)
  go_ret
  exact ⟨_, rfl, rfl⟩
set_option maxRecDepth 100000 in
set_option maxHeartbeats 4000000 in
theorem sort_3 (b cap : Nat) (z0 : Nat → Int) (w : World) (hz : RowI w b 3 z0) (hnc : 3 ≤ cap) :
    Calls Try.prog 47 #[.slice (some ⟨b, 0, none⟩) 3 cap] w fun e w' => e = .returned (.tuple #[]) ∧ (∃ z, RowI w' b 3 z ∧ ((List.range 3).map z).Perm ((List.range 3).map z0) ∧ Ord z 3) ∧ Kw (fun x => x = b) w w' := by
  have HI := Lib.hid (fun lim => pdq_few b 3 cap lim z0 w hz (by omega) hnc)
  have HL := Lib.hid (fun w => len_3 w)
  clear hz
  go_enter Try.func47, Try.ntmps47
  go_wp2_with (fail)
  refine (HL.out _).mono ?_
  rintro e w2 ⟨k, rfl, rfl⟩
  go_wp2_with (fail)
  refine (HI.out k).mono ?_
  rintro e w2 ⟨rfl, hz2, hk2⟩
  have HZ2 := Lib.hid hz2
  have HK2 := Lib.hid hk2
  clear hz2 hk2
  go_wp2_with (fail)
  go_end0
  exact ⟨rfl, HZ2.out, HK2.out⟩
set_option maxRecDepth 100000 in
set_option maxHeartbeats 4000000 in
theorem insertion_none (A : Option Addr) (cap : Nat) (w : World) : Calls Try.prog 52 #[.slice A 0 cap, .int .i64 0, .int .i64 0] w fun e w' => e = .returned (.tuple #[]) ∧ w = w' := by
  go_enter Try.func52, Try.ntmps52
  go_wp2_with (fail)
  go_loopw [6] (fun vi wr => vi = .int .i64 1 ∧ w = wr) (fun i _ => 0)
  case atStart => exact ⟨rfl, rfl⟩
  case round =>
    obtain ⟨rfl, rfl⟩ := hrel
    go_wp2_with (fail)
    go_end0
    exact ⟨rfl, rfl⟩
set_option maxRecDepth 100000 in
set_option maxHeartbeats 4000000 in
theorem sort_0 (A : Option Addr) (cap : Nat) (w : World) :
    Calls Try.prog 47 #[.slice A 0 cap] w fun e w' => e = .returned (.tuple #[]) ∧ w = w' := by
  have HP : Hid (∀ lim, Calls Try.prog 50 #[.slice A 0 cap, .int .i64 0, .int .i64 0, .int .i64 lim] w fun e w' => e = .returned (.tuple #[]) ∧ w = w') := Lib.hid (fun lim => by
    have HI := Lib.hid (insertion_none A cap w)
    go_enter Try.func50, Try.ntmps50
    go_wp2_with (fail)
    go_loopw [1, 2] (fun v1 v2 wr => v1 = .int .i64 0 ∧ v2 = .int .i64 0 ∧ w = wr) (fun _ _ _ => 0)
    case atStart => exact ⟨rfl, rfl, rfl⟩
    case round =>
      obtain ⟨rfl, rfl, rfl⟩ := hrel
      go_wp2_with (fail)
      refine HI.out.mono ?_
      rintro e w2 ⟨rfl, rfl⟩
      go_wp2_with (fail)
      refine bodyPost_ret (results_none rfl _ _ _) rfl ?_
      exact ⟨rfl, rfl⟩)
  have HL := Lib.hid (fun w => len_0 w)
  go_enter Try.func47, Try.ntmps47
  go_wp2_with (fail)
  refine (HL.out _).mono ?_
  rintro e w2 ⟨k, rfl, rfl⟩
  go_wp2_with (fail)
  refine (HP.out k).mono ?_
  rintro e w2 ⟨rfl, rfl⟩
  go_wp2_with (fail)
  go_end0
  exact ⟨rfl, rfl⟩
end Go.Proofs.Ytmalcekbhnkfgaa
