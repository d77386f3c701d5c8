/- The contract of Next. Conditions: as each theorem states them. -/
import Derived.Test.YtlmnnbmihimedaaC1
namespace Go.Proofs.Ytlmnnbmihimedaa
open Go.RowKit Go.Maps
set_option linter.unusedVariables false
set_option linter.unusedSimpArgs false

theorem next_empty (B q m : Nat) (v : Value) (tm : Nat → Tm) (pl : Nat → Int) (w : World) (h : QAt w B q m v [] tm pl) : Calls Try.prog 21 #[.pointer (some ⟨q, 0, none⟩)] w fun e w' => e = .returned (.tuple #[tmV zeroT, .bool false]) ∧ Below w.heap.size w w' := by
  have hl := h.heap.lt
  have h3 := h.mp
  have h0 := h.heap.l
  obtain ⟨A, c, rfl⟩ : ∃ A c, v = .slice A 0 c := by
    rcases h.heap.row.2 with ⟨rfl, _⟩ | ⟨g, c, cur, rfl, _⟩
    · exact ⟨_, _, rfl⟩
    · exact ⟨_, _, rfl⟩
  clear h
  have hN := none_any q m (w.alloc (.cells #[.int .i64 0, .string ⟨#[]⟩, .string ⟨#[]⟩] 23)) (((bl_alloc (Below.refl _ _) _).cell (p := ⟨q, 3, none⟩) hl).trans h3)
  go_enter Try.func21, Try.ntmps21
  go_wp2_with (fail)
  refine hN.mono ?_
  rintro e w1 ⟨rfl, rfl⟩
  go_wp2_with (fail)
  refine bodyPost_ret (v := .tuple #[tmV zeroT, .bool false]) (by simp only [results, Try.results21]; go_simp; rfl) rfl ?_
  exact ⟨rfl, bl_alloc (Below.refl _ _) _⟩
theorem next_nil (w : World) : Calls Try.prog 21 #[.pointer none] w fun e w' => e = .returned (.tuple #[tmV zeroT, .bool false]) ∧ Below w.heap.size w w' := by
  go_enter Try.func21, Try.ntmps21
  go_wp2_with (fail)
  refine (none_nil _).mono ?_
  rintro e w1 ⟨rfl, rfl⟩
  go_wp2_with (fail)
  refine bodyPost_ret (v := .tuple #[tmV zeroT, .bool false]) (by simp only [results, Try.results21]; go_simp; rfl) rfl ?_
  exact ⟨rfl, bl_alloc (Below.refl _ _) _⟩
theorem next_zero (q : Nat) (w : World) (h : w.cell? ⟨q, 3, none⟩ = some (.map none)) : Calls Try.prog 21 #[.pointer (some ⟨q, 0, none⟩)] w fun e w' => e = .returned (.tuple #[tmV zeroT, .bool false]) ∧ Below w.heap.size w w' := by
  have hl := World.block_lt_of_cell? w _ h
  dsimp only at hl
  have hN := none_zero q (w.alloc (.cells #[.int .i64 0, .string ⟨#[]⟩, .string ⟨#[]⟩] 23)) (((bl_alloc (Below.refl _ _) _).cell (p := ⟨q, 3, none⟩) hl).trans h)
  go_enter Try.func21, Try.ntmps21
  go_wp2_with (fail)
  refine hN.mono ?_
  rintro e w1 ⟨rfl, rfl⟩
  go_wp2_with (fail)
  refine bodyPost_ret (v := .tuple #[tmV zeroT, .bool false]) (by simp only [results, Try.results21]; go_simp; rfl) rfl ?_
  exact ⟨rfl, bl_alloc (Below.refl _ _) _⟩
theorem next_some (B q m b : Nat) (v : Value) (bs : List Nat) (tm : Nat → Tm) (pl : Nat → Int) (w : World) (h : QAt w B q m v (b :: bs) tm pl) (hn : bs.length ≤ 100000) : Calls Try.prog 21 #[.pointer (some ⟨q, 0, none⟩)] w fun e w' => e = .returned (.tuple #[tmV (tm b), .bool true]) ∧ Below w.heap.size w w' := by
  have hl := h.heap.lt
  have h3 := h.mp
  have h0 := h.heap.l
  obtain ⟨g, c, rfl, hgB, hnc, hcm, cur, hcur, hcs, hct⟩ := h.heap.rowOf (by simp)
  have hP := h.heap.pile rfl (by simp)
  have hgl := hP.p.gl
  have hc0 : w.cell? ⟨g, 0, none⟩ = some (.pointer (some ⟨b, 0, none⟩)) := hP.cell 0 (by simp)
  obtain ⟨i0, i1, i2, _, _, il⟩ := h.heap.item b (by simp)
  unfold tmV
  generalize tm b = x at *
  have hN := none_any q m (w.alloc (.cells #[.int .i64 0, .string ⟨#[]⟩, .string ⟨#[]⟩] 23)) (((bl_alloc (Below.refl _ _) _).cell (p := ⟨q, 3, none⟩) hl).trans h3)
  clear h hcur hct hP
  have hg0 : (0 : Int) < ((bs.length + 1 : Nat) : Int) := by omega
  obtain ⟨n, hn1⟩ : ∃ n, n = (b :: bs).length := ⟨_, rfl⟩
  rw [← hn1] at h0
  have hnp : 0 < n := by rw [hn1]; simp
  have hnp' : (0 : Int) < (n : Int) := by omega
  have hn0 : ¬ n = 0 := by omega
  have hn0' : ¬ (n : Int) = 0 := by omega
  clear hn1 hnc
  go_enter Try.func21, Try.ntmps21
  go_wp2_with (fail)
  refine hN.mono ?_
  rintro e w1 ⟨rfl, rfl⟩
  go_wp2_with (fail)
  refine bodyPost_ret (v := .tuple #[.agg #[.int .i64 x.t, .string x.k, .string x.s], .bool true]) (by simp only [results, Try.results21]; go_simp) rfl ?_
  refine ⟨rfl, ?_⟩
  refine Kw.below (S := fun b => w.heap.size ≤ b) ?_ (Nat.le_refl _) (fun b h => h)
  repeat (first | exact (Kw.refl _ _).alloc _ | refine Kw.setCell ?_ (Nat.le_refl _) _)
end Go.Proofs.Ytlmnnbmihimedaa
