/- The reference: the check of a job. Conditions: as each theorem states them. -/
import Derived.Test.YtfojblbnhapedaaGreatDoorL1
import Derived.Test.YtfojblbnhapedaaGreatDoorB4
namespace Go.Proofs.YtfojblbnhapedaaGreatDoor
open Go.RowKit Go.Maps
set_option linter.unusedVariables false
set_option linter.unusedSimpArgs false

theorem opsP_le {l : List JOp} {n m : Nat} (h : opsP l m) (hn : n ≤ m) : opsP l n := by
  induction m with
  | zero => obtain rfl : n = 0 := by omega
            exact h
  | succ m ih =>
    rcases Nat.lt_or_ge m n with h1 | h1
    · obtain rfl : n = m + 1 := by omega
      exact h
    · exact ih h.1 h1
theorem least_ex {p : Nat → Prop} (h : ∃ i, p i) : ∃ i, p i ∧ ∀ j, j < i → ¬ p j := by
  classical
  obtain ⟨i, hi⟩ := h
  induction i using Nat.strongRecOn with
  | ind i ih =>
    by_cases hj : ∃ j, j < i ∧ p j
    · obtain ⟨j, hj, hp⟩ := hj
      exact ih j hj hp
    · exact ⟨i, hi, fun j hji hp => hj ⟨j, hji, hp⟩⟩
theorem idx_neg {l : List JOp} {n : ByteArray} : idxP l n 0 < 0 ↔ ∀ p ∈ l, p.nm ≠ n := by
  constructor
  · intro h p hp he
    obtain ⟨i, hi, rfl⟩ := List.mem_iff_getElem.1 hp
    have hex : ∃ i, ∃ hi : i < l.length, (l[i]).nm = n := ⟨i, hi, he⟩
    obtain ⟨j, ⟨hj, e⟩, hmin⟩ := least_ex hex
    have := idxP_at l n 0 j hj e (fun q hq e2 => hmin q hq ⟨by omega, e2⟩)
    omega
  · intro h
    rw [idxP_none l n 0 h]
    omega
set_option maxRecDepth 100000 in
set_option maxHeartbeats 8000000 in
theorem rjob_no (j : Jb) (w : World) (hl : j.ops.length ≤ 9223372036854775807) (hj : ¬ headP j) : Calls Tryz.prog 36 #[jbV j] w fun e w' => e = .returned (.int .i64 2) ∧ Below w.heap.size w w' := by
  obtain ⟨gr, so, bo, la, l, A, c⟩ := j
  obtain ⟨m, hm⟩ : ∃ m, l.length = m := ⟨_, rfl⟩
  unfold jbV headP at *
  dsimp only at *
  rw [hm] at hj hl ⊢
  have HB := Lib.hid (bl_alloc (Below.refl w.heap.size w) (Obj.cells #[.int .i64 gr, .int .i64 so, .int .i64 bo, .int .i64 la, .slice A m c] 24))
  clear hm
  by_cases h0 : gr < 1
  · clear hj
    go_enter Tryz.func36, Tryz.ntmps36
    go_wp2_with (fail)
    go_ret
    exact ⟨rfl, HB.out⟩
  by_cases h1 : 64 < gr
  · clear hj
    go_enter Tryz.func36, Tryz.ntmps36
    go_wp2_with (fail)
    go_ret
    exact ⟨rfl, HB.out⟩
  by_cases h2 : so < 1
  · clear hj
    go_enter Tryz.func36, Tryz.ntmps36
    go_wp2_with (fail)
    go_ret
    exact ⟨rfl, HB.out⟩
  by_cases h3 : 16 < so
  · clear hj
    go_enter Tryz.func36, Tryz.ntmps36
    go_wp2_with (fail)
    go_ret
    exact ⟨rfl, HB.out⟩
  by_cases h4 : bo < 0
  · clear hj
    go_enter Tryz.func36, Tryz.ntmps36
    go_wp2_with (fail)
    go_ret
    exact ⟨rfl, HB.out⟩
  by_cases h5 : 1099511627776 < bo
  · clear hj
    go_enter Tryz.func36, Tryz.ntmps36
    go_wp2_with (fail)
    go_ret
    exact ⟨rfl, HB.out⟩
  by_cases h6 : la < 0
  · clear hj
    go_enter Tryz.func36, Tryz.ntmps36
    go_wp2_with (fail)
    go_ret
    exact ⟨rfl, HB.out⟩
  by_cases h7 : 1099511627776 < la
  · clear hj
    go_enter Tryz.func36, Tryz.ntmps36
    go_wp2_with (fail)
    go_ret
    exact ⟨rfl, HB.out⟩
  by_cases h8 : (8 : Int) < (m : Int)
  · clear hj
    go_enter Tryz.func36, Tryz.ntmps36
    go_wp2_with (fail)
    go_ret
    exact ⟨rfl, HB.out⟩
  exact absurd ⟨by omega, by omega, by omega, by omega, by omega, by omega, by omega, by omega, by omega⟩ hj
end Go.Proofs.YtfojblbnhapedaaGreatDoor
