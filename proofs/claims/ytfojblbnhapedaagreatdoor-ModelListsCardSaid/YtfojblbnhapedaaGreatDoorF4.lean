/- Contract of slices.SortFunc at places, at most one of them. Conditions: as each theorem states them. -/
import Derived.Test.YtfojblbnhapedaaGreatDoorF3
namespace Go.Proofs.YtfojblbnhapedaaGreatDoor
open Go.RowKit Go.Maps
set_option linter.unusedVariables false
set_option linter.unusedSimpArgs false

set_option maxRecDepth 100000 in
set_option maxHeartbeats 4000000 in
theorem len64_1 (n : Nat) (h : n = 0 ∨ n = 1) (w : World) : Calls Tryz.prog 114 #[.int .u64 n] w fun e w' => (∃ q, e = .returned (.int .i64 q)) ∧ w = w' := by
  rcases h with rfl | rfl
  · go_enter Tryz.func114, Tryz.ntmps114
    go_wp2_with (fail)
    go_ret
    exact ⟨⟨_, rfl⟩, rfl⟩
  · go_enter Tryz.func114, Tryz.ntmps114
    go_wp2_with (fail)
    go_ret
    exact ⟨⟨_, rfl⟩, rfl⟩
set_option maxRecDepth 100000 in
set_option maxHeartbeats 4000000 in
theorem len_1 (n : Nat) (h : n = 0 ∨ n = 1) (w : World) : Calls Tryz.prog 88 #[.int .u64 n] w fun e w' => (∃ q, e = .returned (.int .i64 q)) ∧ w = w' := by
  have HL := Lib.hid (len64_1 n h w)
  clear h
  go_enter Tryz.func88, Tryz.ntmps88
  go_wp2_with (fail)
  refine HL.out.mono ?_
  rintro e w' ⟨⟨q, rfl⟩, rfl⟩
  go_wp2_with (fail)
  go_ret
  exact ⟨⟨_, rfl⟩, rfl⟩
set_option maxRecDepth 100000 in
set_option maxHeartbeats 4000000 in
theorem ins_1 (A : Option Addr) (n c : Nat) (f : Value) (h : n = 0 ∨ n = 1) (w : World) : Calls Tryz.prog 105 #[.slice A n c, .int .i64 0, .int .i64 n, f] w fun e w' => e = .returned (.tuple #[]) ∧ w' = w := by
  have hn : ¬ (1 : Int) < (n : Int) := by omega
  clear h
  go_enter Tryz.func105, Tryz.ntmps105
  go_wp2_with (fail)
  go_loopw [8] (fun vi wr => vi = .int .i64 1 ∧ wr = w) (fun _ _ => 0)
  case atStart => exact ⟨rfl, rfl⟩
  case round =>
    obtain ⟨rfl, rfl⟩ := hrel
    go_wp2_with (fail)
    go_end0
    exact ⟨rfl, rfl⟩
set_option maxRecDepth 100000 in
set_option maxHeartbeats 4000000 in
theorem pdq_1 (A : Option Addr) (n c : Nat) (f : Value) (l : Int) (h : n = 0 ∨ n = 1) (w : World) : Calls Tryz.prog 87 #[.slice A n c, .int .i64 0, .int .i64 n, .int .i64 l, f] w fun e w' => e = .returned (.tuple #[]) ∧ w' = w := by
  have HI := Lib.hid (ins_1 A n c f h w)
  have hn : (n : Int) ≤ 12 := by omega
  have e1 : IntKind.i64.wrap ((n : Int) - 0) = (n : Int) := by rw [IntKind.wrap_i64]; omega
  have e2 : IntKind.i64.wrap (n : Int) = (n : Int) := by rw [IntKind.wrap_i64]; omega
  clear h
  go_enter Tryz.func87, Tryz.ntmps87
  go_wp2_with (fail)
  go_loopw [1, 2, 3, 12] (fun v1 v2 v3 _ wr => v1 = .int .i64 0 ∧ v2 = .int .i64 n ∧ v3 = .int .i64 l ∧ wr = w) (fun _ _ _ _ _ => 0)
  case atStart => exact ⟨rfl, rfl, rfl, rfl⟩
  case round =>
    obtain ⟨rfl, rfl, rfl, rfl⟩ := hrel
    go_wp2_with (fail)
    refine HI.out.mono ?_
    rintro e w' ⟨rfl, rfl⟩
    go_wp2_with (fail)
    exact bodyPost_ret (v := .tuple #[]) (by simp [results, Tryz.results87, go_sem]) rfl ⟨rfl, rfl⟩
set_option maxRecDepth 100000 in
set_option maxHeartbeats 4000000 in
theorem sort_1 (A : Option Addr) (n c : Nat) (f : Value) (h : n = 0 ∨ n = 1) (w : World) : Calls Tryz.prog 66 #[.slice A n c, f] w fun e w' => e = .returned (.tuple #[]) ∧ w' = w := by
  have HL := Lib.hid (len_1 n h w)
  have HP := Lib.hid (fun l => pdq_1 A n c f l h w)
  have e1 : IntKind.u64.wrap (n : Int) = (n : Int) := by rw [IntKind.wrap_u64]; omega
  clear h
  go_enter Tryz.func66, Tryz.ntmps66
  go_wp2_with (fail)
  refine HL.out.mono ?_
  rintro e w' ⟨⟨q, rfl⟩, rfl⟩
  go_wp2_with (fail)
  refine (HP.out q).mono ?_
  rintro e w' ⟨rfl, rfl⟩
  go_wp2_with (fail)
  go_end0
  exact ⟨rfl, rfl⟩
end Go.Proofs.YtfojblbnhapedaaGreatDoor
