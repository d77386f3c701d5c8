/- The reference's order and check of timers. Conditions: as each theorem states them. -/
import Derived.Test.YtlmnnbmihimedaaE1
namespace Go.Proofs.Ytlmnnbmihimedaa
open Go.RowKit Go.Maps
set_option linter.unusedVariables false
set_option linter.unusedSimpArgs false

theorem refcheck_any (x : Tm) (w : World) : Calls Try.prog 12 #[tmV x] w fun e w' => e = .returned (.int .i64 (chkT x)) ∧ Below w.heap.size w w' := by
  obtain ⟨t1, k1, s1⟩ := x
  unfold chkT tmV
  dsimp only
  go_enter Try.func12, Try.ntmps12
  go_wp2
  all_goals
    go_ret
    exact ⟨by first | rfl | (exfalso; omega), bl_alloc (Below.refl _ _) _⟩
theorem str_cases (a b : ByteArray) : (cmpS a b = -1 ∧ Op.bytesLess a.toList b.toList = true ∧ Op.bytesLess b.toList a.toList = false ∧ (a.toList == b.toList) = false) ∨ (cmpS a b = 0 ∧ a = b ∧ Op.bytesLess a.toList b.toList = false) ∨ (cmpS a b = 1 ∧ Op.bytesLess a.toList b.toList = false ∧ Op.bytesLess b.toList a.toList = true ∧ (a.toList == b.toList) = false) := by
  rw [less_list, less_list]
  rcases cmpS_cases a b with ⟨h, k, _⟩ | ⟨h, k, _⟩ | ⟨h, k, _⟩
  · left
    have h1 : ¬ b.toList < a.toList := fun c => l_irrefl _ (l_trans k c)
    have h2 : ¬ a.toList = b.toList := fun e => by rw [e] at k; exact l_irrefl _ k
    simp [h, k, h1, h2]
  · right; left
    subst k
    simp [h, l_irrefl]
  · right; right
    have h1 : ¬ a.toList < b.toList := fun c => l_irrefl _ (l_trans k c)
    have h2 : ¬ a.toList = b.toList := fun e => by rw [e] at k; exact l_irrefl _ k
    simp [h, k, h1, h2]
set_option maxRecDepth 100000 in
set_option maxHeartbeats 2000000 in
theorem refcmp_any (x y : Tm) (w : World) : Calls Try.prog 14 #[tmV x, tmV y] w fun e w' => e = .returned (.int .i64 (cmpT x y)) ∧ Below w.heap.size w w' := by
  obtain ⟨t1, k1, s1⟩ := x
  obtain ⟨t2, k2, s2⟩ := y
  unfold tmV cmpT
  dsimp only
  rcases cmpI_cases t1 t2 with ⟨h, h', _⟩ | ⟨h, h', _⟩ | ⟨h, h', _⟩
  · have hne : ¬ t1 = t2 := by omega
    have h2 : orI (cmpI t1 t2) (cmpS k1 k2) (cmpS s1 s2) = -1 := by rw [h]; simp [orI]
    rw [h2]
    clear h h2
    go_enter Try.func14, Try.ntmps14
    go_wp2
    go_ret
    exact ⟨rfl, bl_alloc (bl_alloc (Below.refl _ _) _) _⟩
  · subst h'
    rcases str_cases k1 k2 with ⟨k, ka, kb, kc⟩ | ⟨k, ka, kb⟩ | ⟨k, ka, kb, kc⟩
    · have h2 : orI (cmpI t1 t1) (cmpS k1 k2) (cmpS s1 s2) = -1 := by rw [h, k]; simp [orI]
      rw [h2]
      clear h h2 k
      go_enter Try.func14, Try.ntmps14
      go_wp2
      go_ret
      exact ⟨rfl, bl_alloc (bl_alloc (Below.refl _ _) _) _⟩
    · subst ka
      rcases str_cases s1 s2 with ⟨s, sa, sb, sc⟩ | ⟨s, sa, sb⟩ | ⟨s, sa, sb, sc⟩
      · have h2 : orI (cmpI t1 t1) (cmpS k1 k1) (cmpS s1 s2) = -1 := by rw [h, k, s]; simp [orI]
        rw [h2]
        clear h h2 k s
        go_enter Try.func14, Try.ntmps14
        go_wp2
        go_ret
        exact ⟨rfl, bl_alloc (bl_alloc (Below.refl _ _) _) _⟩
      · subst sa
        have h2 : orI (cmpI t1 t1) (cmpS k1 k1) (cmpS s1 s1) = 0 := by rw [h, k, s]; simp [orI]
        rw [h2]
        clear h h2 k s
        go_enter Try.func14, Try.ntmps14
        go_wp2
        go_ret
        exact ⟨rfl, bl_alloc (bl_alloc (Below.refl _ _) _) _⟩
      · have h2 : orI (cmpI t1 t1) (cmpS k1 k1) (cmpS s1 s2) = 1 := by rw [h, k, s]; simp [orI]
        rw [h2]
        clear h h2 k s
        go_enter Try.func14, Try.ntmps14
        go_wp2
        go_ret
        exact ⟨rfl, bl_alloc (bl_alloc (Below.refl _ _) _) _⟩
    · have h2 : orI (cmpI t1 t1) (cmpS k1 k2) (cmpS s1 s2) = 1 := by rw [h, k]; simp [orI]
      rw [h2]
      clear h h2 k
      go_enter Try.func14, Try.ntmps14
      go_wp2
      go_ret
      exact ⟨rfl, bl_alloc (bl_alloc (Below.refl _ _) _) _⟩
  · have hne : ¬ t1 = t2 := by omega
    have h2 : orI (cmpI t1 t2) (cmpS k1 k2) (cmpS s1 s2) = 1 := by rw [h]; simp [orI]
    have hnl : ¬ t1 < t2 := by omega
    rw [h2]
    clear h h2
    go_enter Try.func14, Try.ntmps14
    go_wp2
    go_ret
    exact ⟨rfl, bl_alloc (bl_alloc (Below.refl _ _) _) _⟩
end Go.Proofs.Ytlmnnbmihimedaa
