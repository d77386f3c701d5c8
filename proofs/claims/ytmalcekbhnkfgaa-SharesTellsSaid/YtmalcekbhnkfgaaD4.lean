/- Contract of shares.Add, whole. Conditions: as each theorem states them. -/
import Derived.Test.YtmalcekbhnkfgaaD3
namespace Go.Proofs.Ytmalcekbhnkfgaa
open Go.RowKit Go.Maps Go.Shelf
set_option linter.unusedVariables false
set_option linter.unusedSimpArgs false

/-- May the point come by itself, and the points be? -/
def comes (l : List Pt) (p : Pt) : Prop := RightP l ∧ mayP p ∧ (0 < l.length → (l.getD (l.length - 1) zeroP).id < p.id)
open Classical in
/-- What Add answers. -/
noncomputable def addE (l : List Pt) (p : Pt) : Int := if comes l p then addG l p else 2
theorem addE_t {l : List Pt} {p : Pt} (h : comes l p) : addE l p = addG l p := by simp [addE, h]
theorem addE_f {l : List Pt} {p : Pt} (h : ¬ comes l p) : addE l p = 2 := by simp [addE, h]
def AddPost (w : World) (l : List Pt) (p : Pt) (e : Ending) (w' : World) : Prop :=
  ∃ v, e = .returned (.tuple #[v, .int .i64 (addE l p)]) ∧ (addE l p ≠ 0 → v = .slice none 0 0) ∧ (addE l p = 0 → ∃ A' c' l', v = .slice A' (l.length + 1) c' ∧ sameP l' (l ++ [p]) ∧ OwnP w' w.heap.size A' l') ∧ Below w.heap.size w w'
theorem add_any (A : Option Addr) (c : Nat) (l : List Pt) (p : Pt) (w : World) (hA : RdP w w.heap.size A l) (hpr : RdS w w.heap.size p.A p.fs) (hpc : p.fs.length ≤ p.c) :
    Calls Try.prog 13 #[.slice A l.length c, ptV p] w (AddPost w l p) := by
  have bad : ¬ comes l p → ∀ e w', e = .returned (.tuple #[.slice none 0 0, .int .i64 2]) ∧ Below w.heap.size w w' → AddPost w l p e w' := by
    rintro h e w' ⟨rfl, hb⟩
    exact ⟨_, by rw [addE_f h], fun _ => rfl, fun h0 => by rw [addE_f h] at h0; omega, hb⟩
  have good : comes l p → ∀ e w', (∃ v, e = .returned (.tuple #[v, .int .i64 (addG l p)]) ∧ (addG l p ≠ 0 → v = .slice none 0 0) ∧ (addG l p = 0 → ∃ A' c' l', v = .slice A' (l.length + 1) c' ∧ sameP l' (l ++ [p]) ∧ OwnP w' w.heap.size A' l') ∧ Below w.heap.size w w') → AddPost w l p e w' := by
    rintro h e w' h1
    unfold AddPost
    rw [addE_t h]
    exact h1
  by_cases hr : RightP l
  · by_cases hp : mayP p
    · by_cases h0 : l.length = 0
      · exact (add_good0 A l.length c l p w rfl hA hr hp hpr hpc h0).mono (good ⟨hr, hp, fun h => by omega⟩)
      · by_cases hi : (l.getD (l.length - 1) zeroP).id < p.id
        · exact (add_goodN A l.length c l p w rfl hA hr hp hpr hpc (by omega) hi).mono (good ⟨hr, hp, fun _ => hi⟩)
        · exact (add_arg A l.length c l p w rfl hA hr hp hpr (by omega) (by omega)).mono (bad (fun h => hi (h.2.2 (by omega))))
    · exact (add_maynot A l.length c l p w rfl hA hr hp hpr).mono (bad (fun h => hp h.2.1))
  · exact (add_wrong A l.length c l p w rfl hA hr).mono (bad (fun h => hr h.1))
end Go.Proofs.Ytmalcekbhnkfgaa
