/- Contract of the insertion sort of numbers. Conditions: as each theorem states them. -/
import Derived.Test.YtmalcekbhnkfgaaA8
namespace Go.Proofs.Ytmalcekbhnkfgaa
open Go.RowKit Go.Maps
set_option linter.unusedVariables false
set_option linter.unusedSimpArgs false

theorem nan_u (a : Int) (w : World) : Calls Try.prog 68 #[.int .u64 a] w fun e w' => e = .returned (.bool false) ∧ w = w' := by
  go_enter Try.func68, Try.ntmps68
  go_wp2
  go_ret
  exact ⟨rfl, rfl⟩
theorem less_u (a b : Int) (w : World) : Calls Try.prog 58 #[.int .u64 a, .int .u64 b] w fun e w' => e = .returned (.bool (decide (a < b))) ∧ w = w' := by
  have H := Lib.hid (fun x w => nan_u x w)
  go_enter Try.func58, Try.ntmps58
  go_wp2_with (go_at_call 68; refine (H.out _ _).mono ?_; rintro e w' ⟨rfl, rfl⟩)
  go_ret
  first | exact ⟨rfl, rfl⟩ | simp
/-- Block b holds n numbers. -/
def RowI (w : World) (b n : Nat) (z : Nat → Int) : Prop := b < w.heap.size ∧ ∀ i, i < n → w.cell? ⟨b, i, none⟩ = some (.int .u64 (z i)) ∧ w.frozen? ⟨b, i, none⟩ = false
theorem cell_other (w : World) (b k i : Nat) (v : Value) (h : k ≠ i) : (w.setCell ⟨b, k, none⟩ v).cell? ⟨b, i, none⟩ = w.cell? ⟨b, i, none⟩ := by
  have hne : (⟨b, k, none⟩ : Addr) ≠ ⟨b, i, none⟩ := by simp [h]
  exact World.cell?_setCell_other w _ _ _ hne
theorem RowI.set {w : World} {b n : Nat} {z : Nat → Int} (h : RowI w b n z) {k : Nat} (hk : k < n) (v : Int) : RowI (w.setCell ⟨b, k, none⟩ (.int .u64 v)) b n (fun i => if i = k then v else z i) := by
  refine ⟨by simp [World.setCell]; exact h.1, fun i hi => ⟨?_, ?_⟩⟩
  · by_cases hik : i = k
    · subst hik
      simp only [if_pos]
      exact World.cell?_setCell_same' _ _ _ (by rw [(h.2 i hi).1]; rfl)
    · simp only [if_neg hik]
      rw [cell_other w b k i _ (fun e => hik e.symm)]
      exact (h.2 i hi).1
  · rw [World.frozen?_setCell]
    exact (h.2 i hi).2
theorem RowI.below {w w' : World} {b n : Nat} {z : Nat → Int} (h : RowI w b n z) (k : Below w.heap.size w w') : RowI w' b n z :=
  ⟨Nat.lt_of_lt_of_le h.1 k.size, fun i hi => ⟨(k.cell (p := ⟨b, i, none⟩) h.1).trans (h.2 i hi).1, (k.frozen (p := ⟨b, i, none⟩) h.1).trans (h.2 i hi).2⟩⟩
/-- Two neighbours change their places. -/
def swp (z : Nat → Int) (j : Nat) : Nat → Int := fun i => if i = j then z (j - 1) else if i = j - 1 then z j else z i
theorem RowI.swap {w : World} {b n : Nat} {z : Nat → Int} (h : RowI w b n z) {j : Nat} (hj : j < n) (h0 : 0 < j) : RowI ((w.setCell ⟨b, j, none⟩ (.int .u64 (z (j - 1)))).setCell ⟨b, j - 1, none⟩ (.int .u64 (z j))) b n (swp z j) := by
  have h1 := (h.set hj (z (j - 1))).set (k := j - 1) (by omega) (z j)
  have e : (fun i => if i = j - 1 then z j else if i = j then z (j - 1) else z i) = swp z j := by
    funext i
    unfold swp
    by_cases hi : i = j
    · rw [if_neg (by omega), if_pos hi, if_pos hi]
    · rw [if_neg hi, if_neg hi]
  rw [e] at h1
  exact h1
def sg (j : Nat) : Nat → Nat := fun i => if i = j then j - 1 else if i = j - 1 then j else i
theorem swp_perm (z : Nat → Int) {j n : Nat} (hj : j < n) (h0 : 0 < j) : ((List.range n).map (swp z j)).Perm ((List.range n).map z) := by
  have e : (List.range n).map (swp z j) = ((List.range n).map (sg j)).map z := by
    rw [List.map_map]
    apply List.map_congr_left
    intro i _
    show swp z j i = z (sg j i)
    unfold swp sg
    by_cases h1 : i = j
    · rw [if_pos h1, if_pos h1]
    · rw [if_neg h1, if_neg h1]
      by_cases h2 : i = j - 1
      · rw [if_pos h2, if_pos h2]
      · rw [if_neg h2, if_neg h2]
  rw [e]
  refine List.Perm.map z ?_
  have hinj : ∀ a b, sg j a = sg j b → a = b := by
    intro a b h
    unfold sg at h
    split at h <;> split at h <;> (try split at h) <;> (try split at h) <;> omega
  refine (List.perm_ext_iff_of_nodup ?_ List.nodup_range).2 fun a => ?_
  · exact List.Pairwise.map _ (fun a b h e => h (hinj a b e)) List.nodup_range
  · rw [List.mem_map, List.mem_range]
    constructor
    · rintro ⟨i, hi, rfl⟩
      rw [List.mem_range] at hi
      unfold sg
      split
      · omega
      · split <;> omega
    · intro ha
      refine ⟨sg j a, List.mem_range.2 ?_, ?_⟩
      · unfold sg
        split
        · omega
        · split <;> omega
      · unfold sg
        split
        · rw [if_neg (by omega), if_pos (by omega)]; omega
        · split
          · rw [if_pos rfl]; omega
          · rfl
/-- The first i are in order. -/
def Ord (z : Nat → Int) (i : Nat) : Prop := ∀ p q, p < q → q < i → z p ≤ z q
/-- The first i + 1 are in order, but for the one at j. -/
def Ins (z : Nat → Int) (i j : Nat) : Prop := ∀ p q, p < q → q ≤ i → q ≠ j → z p ≤ z q
theorem Ord.ins {z : Nat → Int} {i : Nat} (h : Ord z i) : Ins z i i := fun p q h1 h2 h3 => h p q h1 (by omega)
theorem Ins.done0 {z : Nat → Int} {i : Nat} (h : Ins z i 0) : Ord z (i + 1) := fun p q h1 h2 => h p q h1 (by omega) (by omega)
theorem Ins.done {z : Nat → Int} {i j : Nat} (h : Ins z i j) (hj : 0 < j) (hji : j ≤ i) (hle : ¬ z j < z (j - 1)) : Ord z (i + 1) := fun p q h1 h2 => by
  by_cases hq : q = j
  · subst hq
    by_cases hp : p = q - 1
    · subst hp; omega
    · have := h p (q - 1) (by omega) (by omega) (by omega)
      omega
  · exact h p q h1 (by omega) hq
theorem Ins.swap {z : Nat → Int} {i j : Nat} (h : Ins z i j) (hj : 0 < j) (hji : j ≤ i) (hlt : z j < z (j - 1)) : Ins (swp z j) i (j - 1) := fun p q h1 h2 h3 => by
  unfold swp
  by_cases hq : q = j
  · subst hq
    rw [if_pos rfl, if_neg (by omega : ¬ p = q)]
    split
    · omega
    · exact h p (q - 1) (by omega) (by omega) (by omega)
  · rw [if_neg hq, if_neg h3]
    split
    · exact h (j - 1) q (by omega) h2 hq
    · split
      · exact h j q (by omega) h2 hq
      · exact h p q h1 h2 hq
end Go.Proofs.Ytmalcekbhnkfgaa
