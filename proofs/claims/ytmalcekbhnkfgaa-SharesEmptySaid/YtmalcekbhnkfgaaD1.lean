/- Contracts of slices.Clone at files and at points. Conditions: as each theorem states them. -/
import Derived.Test.YtmalcekbhnkfgaaD0
import Derived.Laws.Cover3
namespace Go.Proofs.Ytmalcekbhnkfgaa
open Go.RowKit Go.Maps
set_option linter.unusedVariables false
set_option linter.unusedSimpArgs false

theorem own_none (w : World) (B : Nat) (e : TypeId) (sz : Nat) : w.ownsRow B e sz (.slice none 0 0) 0 [] := ⟨by simp, .inl ⟨rfl, rfl⟩⟩
theorem eql24 (w : World) (a : Option Addr) (l c : Nat) : (binOp .eql 24 (.slice a l c) (.slice none 0 0)).run Try.prog w = .ok (.bool a.isNone) w := by
  have h := run_equal_slice_nil (P := Try.prog) w 24 36 a l c und24'
  simp [binOp, h]
theorem eql22 (w : World) (a : Option Addr) (l c : Nat) : (binOp .eql 22 (.slice a l c) (.slice none 0 0)).run Try.prog w = .ok (.bool a.isNone) w := by
  have h := run_equal_slice_nil (P := Try.prog) w 22 26 a l c und22'
  simp [binOp, h]
set_option maxRecDepth 100000 in
set_option maxHeartbeats 1000000 in
theorem cloneS_some (ad : Addr) (m c B : Nat) (fs : List Sh) (w : World) (hm : fs.length = m) (hr : RdS w B (some ad) fs) (hn : m ≤ 1000000) :
    Calls Try.prog 45 #[.slice (some ad) m c] w fun e w' => ∃ v, e = .returned v ∧ w'.ownsRow w.heap.size 36 4 v m (scells fs) ∧ Below w.heap.size w w' := by
  have HR := Lib.hid hr
  have HM := Lib.hid hm
  have heq := fun (W : World) => eql24 W (some ad) m c
  simp only [Option.isNone_some] at heq
  clear hr hm
  go_enter Try.func45, Try.ntmps45
  go_wp2_with ((at_builtin; refine Hid.out ?_))
  refine Lib.hid ?_
  have hb := Below.alloc (Below.refl w.heap.size w) (Nat.le_refl _) (Obj.cells #[] 36)
  have h0 := World.ownsRow_made (base := w.heap.size) (e := 36) (size := 4) w #[] 0 (Nat.le_refl _) (by decide) rfl
  have hs : (w.alloc (Obj.cells #[] 36)).heap.size = w.heap.size + 1 := by simp
  have HR1 := Lib.hid (HR.out.kw (S := fun _ => False) (Kw.ofBelow hb) (fun _ _ h => h))
  generalize (w.alloc (Obj.cells #[] 36)) = w1 at *
  refine wpList_append_s _ (by rfl) _ _ rfl w.heap.size 0 _ [] rfl h0 (some ad) m c B fs HM.out rfl HR1.out (fun h => by cases h) (by omega) (by omega) ?_
  intro v' w2 hown hg
  rw [Nat.zero_add, List.nil_append] at hown
  have hb2 := hb.grown hg (by omega) (fun k hk => by cases hk; exact Nat.le_refl _)
  have HO := Lib.hid hown
  have HB := Lib.hid hb2
  clear hown hg hb2 hb h0
  go_wp2_with (fail)
  go_ret
  exact ⟨_, rfl, HO.out, HB.out⟩
set_option maxRecDepth 100000 in
set_option maxHeartbeats 1000000 in
theorem cloneS_none (m c : Nat) (w : World) : Calls Try.prog 45 #[.slice none m c] w fun e w' => e = .returned (.slice none 0 0) ∧ w = w' := by
  have heq := fun (W : World) => eql24 W none m c
  simp only [Option.isNone_none] at heq
  go_enter Try.func45, Try.ntmps45
  go_wp2_with (fail)
  go_ret
  exact ⟨rfl, rfl⟩
theorem cloneS_any (A : Option Addr) (m c B : Nat) (fs : List Sh) (w : World) (hm : fs.length = m) (hr : RdS w B A fs) (hn : m ≤ 1000000) :
    Calls Try.prog 45 #[.slice A m c] w fun e w' => ∃ v, e = .returned v ∧ w'.ownsRow w.heap.size 36 4 v m (scells fs) ∧ Below w.heap.size w w' := by
  cases A with
  | some ad => exact cloneS_some ad m c B fs w hm hr hn
  | none =>
    have h0 : fs = [] := by
      cases fs with
      | nil => rfl
      | cons f fs =>
        obtain ⟨b, off, e, _⟩ := hr (by simp)
        cases e
    subst h0
    have hm0 : m = 0 := by simpa using hm.symm
    subst hm0
    refine (cloneS_none 0 c w).mono ?_
    rintro e w' ⟨rfl, rfl⟩
    exact ⟨_, rfl, own_none _ _ _ _, Below.refl _ _⟩
theorem rdP_at {w : World} {B : Nat} {ad : Addr} {l : List Pt} (h : RdP w B (some ad) l) : ∀ (j : Nat) u, (pcells l)[j]? = some u → w.cell? (ad.add j) = some u := by
  intro j u hu
  have hj : j < (pcells l).length := (List.getElem?_eq_some_iff.1 hu).1
  rw [pcells_length] at hj
  obtain ⟨b, off, e, _⟩ := h.1 (by omega)
  cases e
  exact rdP_cells h j u hu
set_option maxRecDepth 100000 in
set_option maxHeartbeats 1000000 in
theorem cloneP_some (ad : Addr) (m c B : Nat) (fs : List Pt) (w : World) (hm : fs.length = m) (hr : RdP w B (some ad) fs) (hn : m ≤ 1000000) :
    Calls Try.prog 32 #[.slice (some ad) m c] w fun e w' => ∃ v, e = .returned v ∧ w'.ownsRow w.heap.size 26 2 v m (pcells fs) ∧ Below w.heap.size w w' := by
  have HR := Lib.hid hr
  have HM := Lib.hid hm
  have heq := fun (W : World) => eql22 W (some ad) m c
  simp only [Option.isNone_some] at heq
  clear hr hm
  go_enter Try.func32, Try.ntmps32
  go_wp2_with ((at_builtin; refine Hid.out ?_))
  refine Lib.hid ?_
  have hb := Below.alloc (Below.refl w.heap.size w) (Nat.le_refl _) (Obj.cells #[] 26)
  have h0 := World.ownsRow_made (base := w.heap.size) (e := 26) (size := 2) w #[] 0 (Nat.le_refl _) (by decide) rfl
  have hs : (w.alloc (Obj.cells #[] 26)).heap.size = w.heap.size + 1 := by simp
  have HR1 := Lib.hid (HR.out.kw (S := fun _ => False) (Kw.ofBelow hb) (fun _ _ h => h))
  generalize (w.alloc (Obj.cells #[] 26)) = w1 at *
  refine wpList_append_p _ (by rfl) _ _ rfl w.heap.size 0 _ [] rfl h0 (some ad) m c fs HM.out rfl (fun ad' h => by cases h; exact rdP_at HR1.out) (fun h => by cases h) (by omega) (by omega) ?_
  intro v' w2 hown hg
  rw [Nat.zero_add, List.nil_append] at hown
  have hb2 := hb.grown hg (by omega) (fun k hk => by cases hk; exact Nat.le_refl _)
  have HO := Lib.hid hown
  have HB := Lib.hid hb2
  clear hown hg hb2 hb h0
  go_wp2_with (fail)
  go_ret
  exact ⟨_, rfl, HO.out, HB.out⟩
set_option maxRecDepth 100000 in
set_option maxHeartbeats 1000000 in
theorem cloneP_none (m c : Nat) (w : World) : Calls Try.prog 32 #[.slice none m c] w fun e w' => e = .returned (.slice none 0 0) ∧ w = w' := by
  have heq := fun (W : World) => eql22 W none m c
  simp only [Option.isNone_none] at heq
  go_enter Try.func32, Try.ntmps32
  go_wp2_with (fail)
  go_ret
  exact ⟨rfl, rfl⟩
theorem cloneP_any (A : Option Addr) (m c B : Nat) (fs : List Pt) (w : World) (hm : fs.length = m) (hr : RdP w B A fs) (hn : m ≤ 1000000) :
    Calls Try.prog 32 #[.slice A m c] w fun e w' => ∃ v, e = .returned v ∧ w'.ownsRow w.heap.size 26 2 v m (pcells fs) ∧ Below w.heap.size w w' := by
  cases A with
  | some ad => exact cloneP_some ad m c B fs w hm hr hn
  | none =>
    have h0 : fs = [] := by
      cases fs with
      | nil => rfl
      | cons f fs =>
        obtain ⟨b, off, e, _⟩ := hr.1 (by simp)
        cases e
    subst h0
    have hm0 : m = 0 := by simpa using hm.symm
    subst hm0
    refine (cloneP_none 0 c w).mono ?_
    rintro e w' ⟨rfl, rfl⟩
    exact ⟨_, rfl, own_none _ _ _ _, Below.refl _ _⟩
end Go.Proofs.Ytmalcekbhnkfgaa
