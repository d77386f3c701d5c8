/- Rows of files and of points of the call's own; append of a slice to such a row. Conditions: as each theorem states them. -/
import Derived.Test.YtmalcekbhnkfgaaB9
import Derived.Laws.AppendOwnNone
import Derived.Laws.Cover3
namespace Go.Proofs.Ytmalcekbhnkfgaa
open Go.RowKit Go.Maps
set_option linter.unusedVariables false
set_option linter.unusedSimpArgs false

def scells (l : List Sh) : List Value := l.flatMap (fun f => [.int .u64 f.tb, .int .i64 f.sz, .int .u32 f.sm, .int .u64 f.nm])
def pcells (l : List Pt) : List Value := l.flatMap (fun p => [.int .u64 p.id, .slice p.A p.fs.length p.c])
theorem scells_length (l : List Sh) : (scells l).length = l.length * 4 := by
  induction l with
  | nil => rfl
  | cons p l ih => simp [scells] at ih ⊢; omega
theorem pcells_length (l : List Pt) : (pcells l).length = l.length * 2 := by
  induction l with
  | nil => rfl
  | cons p l ih => simp [pcells] at ih ⊢; omega
theorem scells_append (l m : List Sh) : scells (l ++ m) = scells l ++ scells m := by simp [scells]
theorem pcells_append (l m : List Pt) : pcells (l ++ m) = pcells l ++ pcells m := by simp [pcells]
theorem scells_one (l : List Sh) : ∀ u ∈ scells l, u.oneCell' = true := by
  intro u hu
  obtain ⟨x, _, hx⟩ := List.mem_flatMap.1 hu
  simp at hx
  rcases hx with rfl | rfl | rfl | rfl <;> rfl
theorem pcells_one (l : List Pt) : ∀ u ∈ pcells l, u.oneCell' = true := by
  intro u hu
  obtain ⟨x, _, hx⟩ := List.mem_flatMap.1 hu
  simp at hx
  rcases hx with rfl | rfl <;> rfl
theorem scells_get (l : List Sh) : ∀ i, i < l.length → (scells l)[i * 4]? = some (.int .u64 (l.getD i zeroS).tb) ∧ (scells l)[i * 4 + 1]? = some (.int .i64 (l.getD i zeroS).sz) ∧ (scells l)[i * 4 + 2]? = some (.int .u32 (l.getD i zeroS).sm) ∧ (scells l)[i * 4 + 3]? = some (.int .u64 (l.getD i zeroS).nm) := by
  induction l with
  | nil => intro i hi; simp at hi
  | cons p l ih =>
    intro i hi
    cases i with
    | zero => simp [scells]
    | succ i =>
      have := ih i (by simpa using hi)
      rw [show (i + 1) * 4 = i * 4 + 1 + 1 + 1 + 1 by omega]
      simpa [scells] using this
theorem pcells_get (l : List Pt) : ∀ i, i < l.length → (pcells l)[i * 2]? = some (.int .u64 (l.getD i zeroP).id) ∧ (pcells l)[i * 2 + 1]? = some (.slice (l.getD i zeroP).A (l.getD i zeroP).fs.length (l.getD i zeroP).c) := by
  induction l with
  | nil => intro i hi; simp at hi
  | cons p l ih =>
    intro i hi
    cases i with
    | zero => simp [pcells]
    | succ i =>
      have := ih i (by simpa using hi)
      rw [show (i + 1) * 2 = i * 2 + 1 + 1 by omega]
      simpa [pcells] using this
theorem rdS_cells {w : World} {B b off : Nat} {l : List Sh} (h : RdS w B (some ⟨b, off, none⟩) l) : ∀ (j : Nat) u, (scells l)[j]? = some u → w.cell? ((⟨b, off, none⟩ : Addr).add j) = some u := by
  intro j u hu
  have hj : j < l.length * 4 := by rw [← scells_length]; exact (List.getElem?_eq_some_iff.1 hu).1
  obtain ⟨b', off', e, _, _, hc⟩ := h (by omega)
  cases e
  obtain ⟨c0, c1, c2, c3⟩ := hc (j / 4) (by omega)
  obtain ⟨d0, d1, d2, d3⟩ := scells_get l (j / 4) (by omega)
  rw [Addr.add_lit]
  have h4 : j % 4 = 0 ∨ j % 4 = 1 ∨ j % 4 = 2 ∨ j % 4 = 3 := by omega
  rcases h4 with h | h | h | h
  · have e : j = j / 4 * 4 := by omega
    rw [e] at hu ⊢
    rw [hu] at d0
    rw [c0, ← d0]
  · have e : j = j / 4 * 4 + 1 := by omega
    rw [e] at hu ⊢
    rw [hu] at d1
    rw [← Nat.add_assoc, c1, ← d1]
  · have e : j = j / 4 * 4 + 2 := by omega
    rw [e] at hu ⊢
    rw [hu] at d2
    rw [← Nat.add_assoc, c2, ← d2]
  · have e : j = j / 4 * 4 + 3 := by omega
    rw [e] at hu ⊢
    rw [hu] at d3
    rw [← Nat.add_assoc, c3, ← d3]
theorem rdP_cells {w : World} {B b off : Nat} {l : List Pt} (h : RdP w B (some ⟨b, off, none⟩) l) : ∀ (j : Nat) u, (pcells l)[j]? = some u → w.cell? ((⟨b, off, none⟩ : Addr).add j) = some u := by
  intro j u hu
  have hj : j < l.length * 2 := by rw [← pcells_length]; exact (List.getElem?_eq_some_iff.1 hu).1
  obtain ⟨b', off', e, _, _, hc⟩ := h.1 (by omega)
  cases e
  obtain ⟨c0, c1⟩ := hc (j / 2) (by omega)
  obtain ⟨d0, d1⟩ := pcells_get l (j / 2) (by omega)
  rw [Addr.add_lit]
  have h4 : j % 2 = 0 ∨ j % 2 = 1 := by omega
  rcases h4 with h | h
  · have e : j = j / 2 * 2 := by omega
    rw [e] at hu ⊢
    rw [hu] at d0
    rw [c0, ← d0]
  · have e : j = j / 2 * 2 + 1 := by omega
    rw [e] at hu ⊢
    rw [hu] at d1
    rw [← Nat.add_assoc, c1, ← d1]
theorem und22' : Try.prog.underlying 22 = some (.slice 26) := by kernel_rfl
theorem und24' : Try.prog.underlying 24 = some (.slice 36) := by kernel_rfl
theorem i26 : (Try.prog.info? 26).map (fun i => (i.zero, i.size, i.bytes)) = some (some (.agg #[.int .u64 0, .slice none 0 0]), 2, 32) := by kernel_rfl
theorem i36 : (Try.prog.info? 36).map (fun i => (i.zero, i.size, i.bytes)) = some (some (.agg #[.int .u64 0, .int .i64 0, .int .u32 0, .int .u64 0]), 4, 32) := by kernel_rfl
/-- append of a slice of files to a row of the call's own. -/
theorem wpList_append_s {ops : Array Oper} {rest : List Oper} {o : Oper} {a : Act} {Q : Exit → Act → World → Prop} (w : World) (hw : Region.wanted o (yielded ops a.tmps) = true) (s x : Operand)
    (ho : o.op = .call { callee := .builtin .append, args := #[s, x], argTypes := #[24, 24] }) (base n : Nat) (v : Value) (xs : List Sh) (hs : a.eval s = v) (hown : w.ownsRow base 36 4 v n (scells xs))
    (A : Option Addr) (m c B : Nat) (l : List Sh) (hm : l.length = m) (hx : a.eval x = .slice A m c) (hr : RdS w B A l) (hnone : A = none → c = 0 ∧ m = 0) (hn : n + m ≤ 1000001) (hbase : base ≤ w.heap.size)
    (h : ∀ v' w', w'.ownsRow base 36 4 v' (n + m) (scells (xs ++ l)) → w.grownBy w' v.ownBlock → wpList Try.prog ops Q rest (a.put o.dst v') w') : wpList Try.prog ops Q (o :: rest) a w := by
  obtain ⟨i0, hi, hz0, hz1, hz2⟩ := info_parts i36
  refine wpList_step fun K hK => ?_
  rw [if_pos hw]
  subst hm
  by_cases hl : l = [] ∧ A = none
  · obtain ⟨rfl, rfl⟩ := hl
    obtain ⟨rfl, _⟩ := hnone rfl
    have hrun := run_append_owned_none (P := Try.prog) (w := w) base 24 o.type 36 i0 4 und24' hi v n (scells xs) hown
    unfold Oper.wp
    simp [execOp, ho, resolve, invoke, builtin, hs, hx, hrun, Result.andThen]
    exact hK _ _ (h v w (by simpa using hown) ⟨rfl, rfl, rfl, Nat.le_refl _, fun _ _ _ => rfl⟩)
  · obtain ⟨ad, rfl⟩ : ∃ ad, A = some ad := by
      cases A with
      | some ad => exact ⟨ad, rfl⟩
      | none =>
        exfalso
        have := (hnone rfl).2
        exact hl ⟨List.length_eq_zero_iff.1 this, rfl⟩
    have hnews : ∀ j u, (scells l)[j]? = some u → w.cell? (ad.add j) = some u := by
      intro j u hu
      have hj : j < (scells l).length := (List.getElem?_eq_some_iff.1 hu).1
      rw [scells_length] at hj
      obtain ⟨b, off, e, _⟩ := hr (by omega)
      cases e
      exact rdS_cells hr j u hu
    exact wp_append_own w s x 24 ho base 36 i0 (.agg #[.int .u64 0, .int .i64 0, .int .u32 0, .int .u64 0]) 4 32 und24' hi hz0 hz1 hz2 rfl (by decide) v n (scells xs) hs hown ad l.length c (scells l) hx (scells_length l) hnews (scells_one l) (by unfold maxLen; omega) (by omega) hbase (fun v' w' h1 h2 _ => hK _ _ (h v' w' (by rw [scells_append]; exact h1) h2))
/-- append of a slice of points to a row of the call's own. -/
theorem wpList_append_p {ops : Array Oper} {rest : List Oper} {o : Oper} {a : Act} {Q : Exit → Act → World → Prop} (w : World) (hw : Region.wanted o (yielded ops a.tmps) = true) (s x : Operand)
    (ho : o.op = .call { callee := .builtin .append, args := #[s, x], argTypes := #[22, 22] }) (base n : Nat) (v : Value) (xs : List Pt) (hs : a.eval s = v) (hown : w.ownsRow base 26 2 v n (pcells xs))
    (A : Option Addr) (m c : Nat) (l : List Pt) (hm : l.length = m) (hx : a.eval x = .slice A m c) (hr : ∀ ad, A = some ad → ∀ j u, (pcells l)[j]? = some u → w.cell? (ad.add j) = some u) (hnone : A = none → c = 0 ∧ m = 0) (hn : n + m ≤ 1000001) (hbase : base ≤ w.heap.size)
    (h : ∀ v' w', w'.ownsRow base 26 2 v' (n + m) (pcells (xs ++ l)) → w.grownBy w' v.ownBlock → wpList Try.prog ops Q rest (a.put o.dst v') w') : wpList Try.prog ops Q (o :: rest) a w := by
  obtain ⟨i0, hi, hz0, hz1, hz2⟩ := info_parts i26
  refine wpList_step fun K hK => ?_
  rw [if_pos hw]
  subst hm
  by_cases hl : l = [] ∧ A = none
  · obtain ⟨rfl, rfl⟩ := hl
    obtain ⟨rfl, _⟩ := hnone rfl
    have hrun := run_append_owned_none (P := Try.prog) (w := w) base 22 o.type 26 i0 2 und22' hi v n (pcells xs) hown
    unfold Oper.wp
    simp [execOp, ho, resolve, invoke, builtin, hs, hx, hrun, Result.andThen]
    exact hK _ _ (h v w (by simpa using hown) ⟨rfl, rfl, rfl, Nat.le_refl _, fun _ _ _ => rfl⟩)
  · obtain ⟨ad, rfl⟩ : ∃ ad, A = some ad := by
      cases A with
      | some ad => exact ⟨ad, rfl⟩
      | none =>
        exfalso
        have := (hnone rfl).2
        exact hl ⟨List.length_eq_zero_iff.1 this, rfl⟩
    exact wp_append_own w s x 22 ho base 26 i0 (.agg #[.int .u64 0, .slice none 0 0]) 2 32 und22' hi hz0 hz1 hz2 rfl (by decide) v n (pcells xs) hs hown ad l.length c (pcells l) hx (pcells_length l) (hr ad rfl) (pcells_one l) (by unfold maxLen; omega) (by omega) hbase (fun v' w' h1 h2 _ => hK _ _ (h v' w' (by rw [pcells_append]; exact h1) h2))
/-- Cells of a row of one's own. -/
theorem own_cell {w : World} {B n sz : Nat} {e : TypeId} {g off' n' c : Nat} {xs : List Value} (h : w.ownsRow B e sz (.slice (some ⟨g, off', none⟩) n' c) n xs) : ∀ j u, xs[j]? = some u → w.cell? ⟨g, j, none⟩ = some u ∧ w.frozen? ⟨g, j, none⟩ = false := by
  intro j u hu
  rcases h.2 with ⟨e0, _⟩ | ⟨g', c', cur, e0, hb, hg, hnc, hcm, hs, ht⟩
  · cases e0
  · cases e0
    rw [← ht, List.getElem?_take] at hu
    split at hu
    · refine ⟨?_, by simp [World.frozen?, hg]⟩
      simp only [World.cell?, hg]
      simpa using hu
    · cases hu
theorem own_form {w : World} {B n sz : Nat} {e : TypeId} {v : Value} {xs : List Value} (h : w.ownsRow B e sz v n xs) : (v = .slice none 0 0 ∧ n = 0) ∨ ∃ g c, v = .slice (some ⟨g, 0, none⟩) n c ∧ n ≤ c ∧ B ≤ g ∧ g < w.heap.size := by
  rcases h.2 with ⟨rfl, h0⟩ | ⟨g, c, cur, rfl, hb, hg, hnc, hcm, hs, ht⟩
  · exact .inl ⟨rfl, h0⟩
  · exact .inr ⟨g, c, rfl, hnc, hb, (Array.getElem?_eq_some_iff.1 hg).1⟩
end Go.Proofs.Ytmalcekbhnkfgaa
namespace Go.Proofs.Ytmalcekbhnkfgaa
open Go.RowKit Go.Maps
set_option linter.unusedVariables false
set_option linter.unusedSimpArgs false

theorem own_none (w : World) (B : Nat) (e : TypeId) (sz : Nat) : w.ownsRow B e sz (.slice none 0 0) 0 [] := ⟨by simp, .inl ⟨rfl, rfl⟩⟩
theorem eql24 (w : World) (a : Option Addr) (l c : Nat) : (binOp .eql 24 (.slice a l c) (.slice none 0 0)).run Try.prog w = .ok (.bool a.isNone) w := by
  have h := run_equal_slice_nil (P := Try.prog) w 24 36 a l c und24'
  simp [binOp, h]
theorem eql22 (w : World) (a : Option Addr) (l c : Nat) : (binOp .eql 22 (.slice a l c) (.slice none 0 0)).run Try.prog w = .ok (.bool a.isNone) w := by
  have h := run_equal_slice_nil (P := Try.prog) w 22 26 a l c und22'
  simp [binOp, h]
set_option maxRecDepth 100000 in
set_option maxHeartbeats 1000000 in
theorem cloneS_some (ad : Addr) (m c B : Nat) (fs : List Sh) (w : World) (hm : fs.length = m) (hr : RdS w B (some ad) fs) (hn : m ≤ 1000000) :
    Calls Try.prog 45 #[.slice (some ad) m c] w fun e w' => ∃ v, e = .returned v ∧ w'.ownsRow w.heap.size 36 4 v m (scells fs) ∧ Below w.heap.size w w' := by
  have HR := Lib.hid hr
  have HM := Lib.hid hm
  have heq := fun (W : World) => eql24 W (some ad) m c
  simp only [Option.isNone_some] at heq
  clear hr hm
  go_enter Try.func45, Try.ntmps45
  go_wp2_with ((at_builtin; refine Hid.out ?_))
  refine Lib.hid ?_
  have hb := Below.alloc (Below.refl w.heap.size w) (Nat.le_refl _) (Obj.cells #[] 36)
  have h0 := World.ownsRow_made (base := w.heap.size) (e := 36) (size := 4) w #[] 0 (Nat.le_refl _) (by decide) rfl
  have hs : (w.alloc (Obj.cells #[] 36)).heap.size = w.heap.size + 1 := by simp
  have HR1 := Lib.hid (HR.out.kw (S := fun _ => False) (Kw.ofBelow hb) (fun _ _ h => h))
  generalize (w.alloc (Obj.cells #[] 36)) = w1 at *
  refine wpList_append_s _ (by rfl) _ _ rfl w.heap.size 0 _ [] rfl h0 (some ad) m c B fs HM.out rfl HR1.out (fun h => by cases h) (by omega) (by omega) ?_
  intro v' w2 hown hg
  rw [Nat.zero_add, List.nil_append] at hown
  have hb2 := hb.grown hg (by omega) (fun k hk => by cases hk; exact Nat.le_refl _)
  have HO := Lib.hid hown
  have HB := Lib.hid hb2
  clear hown hg hb2 hb h0
  go_wp2_with (fail)
  go_ret
  exact ⟨_, rfl, HO.out, HB.out⟩
set_option maxRecDepth 100000 in
set_option maxHeartbeats 1000000 in
theorem cloneS_none (m c : Nat) (w : World) : Calls Try.prog 45 #[.slice none m c] w fun e w' => e = .returned (.slice none 0 0) ∧ w = w' := by
  have heq := fun (W : World) => eql24 W none m c
  simp only [Option.isNone_none] at heq
  go_enter Try.func45, Try.ntmps45
  go_wp2_with (fail)
  go_ret
  exact ⟨rfl, rfl⟩
theorem cloneS_any (A : Option Addr) (m c B : Nat) (fs : List Sh) (w : World) (hm : fs.length = m) (hr : RdS w B A fs) (hn : m ≤ 1000000) :
    Calls Try.prog 45 #[.slice A m c] w fun e w' => ∃ v, e = .returned v ∧ w'.ownsRow w.heap.size 36 4 v m (scells fs) ∧ Below w.heap.size w w' := by
  cases A with
  | some ad => exact cloneS_some ad m c B fs w hm hr hn
  | none =>
    have h0 : fs = [] := by
      cases fs with
      | nil => rfl
      | cons f fs =>
        obtain ⟨b, off, e, _⟩ := hr (by simp)
        cases e
    subst h0
    have hm0 : m = 0 := by simpa using hm.symm
    subst hm0
    refine (cloneS_none 0 c w).mono ?_
    rintro e w' ⟨rfl, rfl⟩
    exact ⟨_, rfl, own_none _ _ _ _, Below.refl _ _⟩
theorem rdP_at {w : World} {B : Nat} {ad : Addr} {l : List Pt} (h : RdP w B (some ad) l) : ∀ (j : Nat) u, (pcells l)[j]? = some u → w.cell? (ad.add j) = some u := by
  intro j u hu
  have hj : j < (pcells l).length := (List.getElem?_eq_some_iff.1 hu).1
  rw [pcells_length] at hj
  obtain ⟨b, off, e, _⟩ := h.1 (by omega)
  cases e
  exact rdP_cells h j u hu
set_option maxRecDepth 100000 in
set_option maxHeartbeats 1000000 in
theorem cloneP_some (ad : Addr) (m c B : Nat) (fs : List Pt) (w : World) (hm : fs.length = m) (hr : RdP w B (some ad) fs) (hn : m ≤ 1000000) :
    Calls Try.prog 32 #[.slice (some ad) m c] w fun e w' => ∃ v, e = .returned v ∧ w'.ownsRow w.heap.size 26 2 v m (pcells fs) ∧ Below w.heap.size w w' := by
  have HR := Lib.hid hr
  have HM := Lib.hid hm
  have heq := fun (W : World) => eql22 W (some ad) m c
  simp only [Option.isNone_some] at heq
  clear hr hm
  go_enter Try.func32, Try.ntmps32
  go_wp2_with ((at_builtin; refine Hid.out ?_))
  refine Lib.hid ?_
  have hb := Below.alloc (Below.refl w.heap.size w) (Nat.le_refl _) (Obj.cells #[] 26)
  have h0 := World.ownsRow_made (base := w.heap.size) (e := 26) (size := 2) w #[] 0 (Nat.le_refl _) (by decide) rfl
  have hs : (w.alloc (Obj.cells #[] 26)).heap.size = w.heap.size + 1 := by simp
  have HR1 := Lib.hid (HR.out.kw (S := fun _ => False) (Kw.ofBelow hb) (fun _ _ h => h))
  generalize (w.alloc (Obj.cells #[] 26)) = w1 at *
  refine wpList_append_p _ (by rfl) _ _ rfl w.heap.size 0 _ [] rfl h0 (some ad) m c fs HM.out rfl (fun ad' h => by cases h; exact rdP_at HR1.out) (fun h => by cases h) (by omega) (by omega) ?_
  intro v' w2 hown hg
  rw [Nat.zero_add, List.nil_append] at hown
  have hb2 := hb.grown hg (by omega) (fun k hk => by cases hk; exact Nat.le_refl _)
  have HO := Lib.hid hown
  have HB := Lib.hid hb2
  clear hown hg hb2 hb h0
  go_wp2_with (fail)
  go_ret
  exact ⟨_, rfl, HO.out, HB.out⟩
set_option maxRecDepth 100000 in
set_option maxHeartbeats 1000000 in
theorem cloneP_none (m c : Nat) (w : World) : Calls Try.prog 32 #[.slice none m c] w fun e w' => e = .returned (.slice none 0 0) ∧ w = w' := by
  have heq := fun (W : World) => eql22 W none m c
  simp only [Option.isNone_none] at heq
  go_enter Try.func32, Try.ntmps32
  go_wp2_with (fail)
  go_ret
  exact ⟨rfl, rfl⟩
theorem cloneP_any (A : Option Addr) (m c B : Nat) (fs : List Pt) (w : World) (hm : fs.length = m) (hr : RdP w B A fs) (hn : m ≤ 1000000) :
    Calls Try.prog 32 #[.slice A m c] w fun e w' => ∃ v, e = .returned v ∧ w'.ownsRow w.heap.size 26 2 v m (pcells fs) ∧ Below w.heap.size w w' := by
  cases A with
  | some ad => exact cloneP_some ad m c B fs w hm hr hn
  | none =>
    have h0 : fs = [] := by
      cases fs with
      | nil => rfl
      | cons f fs =>
        obtain ⟨b, off, e, _⟩ := hr.1 (by simp)
        cases e
    subst h0
    have hm0 : m = 0 := by simpa using hm.symm
    subst hm0
    refine (cloneP_none 0 c w).mono ?_
    rintro e w' ⟨rfl, rfl⟩
    exact ⟨_, rfl, own_none _ _ _ _, Below.refl _ _⟩
end Go.Proofs.Ytmalcekbhnkfgaa
namespace Go.Proofs.Ytmalcekbhnkfgaa
open Go.RowKit Go.Maps
set_option linter.unusedVariables false
set_option linter.unusedSimpArgs false

theorem own_kw {w w' : World} {S : Nat → Prop} {B n sz : Nat} {e : TypeId} {v : Value} {xs : List Value} (h : w.ownsRow B e sz v n xs) (k : Kw S w w') (hS : ∀ b, v.ownBlock = some b → ¬ S b) : w'.ownsRow B e sz v n xs := by
  refine ⟨h.1, ?_⟩
  rcases h.2 with h0 | ⟨g, c, cur, rfl, hb, hg, h1⟩
  · exact .inl h0
  · exact .inr ⟨g, c, cur, rfl, hb, (k.block g (Array.getElem?_eq_some_iff.1 hg).1 (hS g rfl)).trans hg, h1⟩
/-- A row of points, in block g. -/
def RowP (w : World) (g n : Nat) (z : Nat → Pt) : Prop := g < w.heap.size ∧ ∀ i, i < n → w.cell? ⟨g, i * 2, none⟩ = some (.int .u64 (z i).id) ∧ w.cell? ⟨g, i * 2 + 1, none⟩ = some (.slice (z i).A (z i).fs.length (z i).c) ∧ w.frozen? ⟨g, i * 2 + 1, none⟩ = false
theorem RowP.kw {w w' : World} {S : Nat → Prop} {g n : Nat} {z : Nat → Pt} (h : RowP w g n z) (k : Kw S w w') (hS : ¬ S g) : RowP w' g n z :=
  ⟨Nat.lt_of_lt_of_le h.1 k.size, fun i hi => ⟨(k.cell h.1 hS).trans (h.2 i hi).1, (k.cell h.1 hS).trans (h.2 i hi).2.1, (k.frozen h.1 hS).trans (h.2 i hi).2.2⟩⟩
theorem RowP.of_own {w : World} {B n g c n' : Nat} {l : List Pt} (h : w.ownsRow B 26 2 (.slice (some ⟨g, 0, none⟩) n' c) n (pcells l)) (hl : l.length = n) (hg : g < w.heap.size) : RowP w g n (fun i => l.getD i zeroP) :=
  ⟨hg, fun i hi => by
    obtain ⟨d0, d1⟩ := pcells_get l i (by omega)
    exact ⟨(own_cell h _ _ d0).1, (own_cell h _ _ d1).1, (own_cell h _ _ d1).2⟩⟩
theorem RowP.set {w : World} {g n : Nat} {z : Nat → Pt} (h : RowP w g n z) {i : Nat} (hi : i < n) (p : Pt) (hp : p.id = (z i).id) : RowP (w.setCell ⟨g, i * 2 + 1, none⟩ (.slice p.A p.fs.length p.c)) g n (fun j => if j = i then p else z j) := by
  refine ⟨by simpa [World.setCell] using h.1, fun j hj => ?_⟩
  obtain ⟨a0, a1, a2⟩ := h.2 j hj
  have hf : (w.setCell ⟨g, i * 2 + 1, none⟩ (.slice p.A p.fs.length p.c)).frozen? ⟨g, j * 2 + 1, none⟩ = false := by rw [World.frozen?_setCell]; exact a2
  by_cases hji : j = i
  · subst hji
    simp only [if_true]
    refine ⟨?_, ?_, hf⟩
    · rw [cell_other _ _ _ _ _ (by omega), a0, hp]
    · exact World.cell?_setCell_same _ _ _ a1
  · simp only [if_neg hji]
    refine ⟨?_, ?_, hf⟩
    · rw [cell_other _ _ _ _ _ (by omega), a0]
    · rw [cell_other _ _ _ _ _ (by omega), a1]
/-- A point's files stand in a row of one's own, not in block g. -/
def FreP (w : World) (B g : Nat) (p : Pt) : Prop := w.ownsRow B 36 4 (.slice p.A p.fs.length p.c) p.fs.length (scells p.fs) ∧ ∀ a, p.A = some a → a.block ≠ g
theorem FreP.kw {w w' : World} {S : Nat → Prop} {B g : Nat} {p : Pt} (h : FreP w B g p) (k : Kw S w w') (hS : ∀ a, p.A = some a → ¬ S a.block) : FreP w' B g p :=
  ⟨own_kw h.1 k (fun b hb => by
    cases hA : p.A with
    | none => rw [hA] at hb; cases hb
    | some a => rw [hA] at hb; cases hb; exact hS a hA), h.2⟩
theorem FreP.rd {w : World} {B g : Nat} {p : Pt} (h : FreP w B g p) : RdS w w.heap.size p.A p.fs ∧ p.fs.length ≤ p.c := by
  rcases own_form h.1 with ⟨e, h0⟩ | ⟨g', c, e, hc, hB, hg⟩
  · exact ⟨fun hl => by omega, by omega⟩
  · simp only [Value.slice.injEq] at e
    obtain ⟨e1, _, e2⟩ := e
    refine ⟨fun hl => ⟨g', 0, e1, hg, Nat.le_refl _, fun i hi => ?_⟩, by rw [e2]; exact hc⟩
    have h1 := h.1
    rw [e1] at h1
    obtain ⟨d0, d1, d2, d3⟩ := scells_get p.fs i hi
    rw [Nat.zero_add]
    exact ⟨(own_cell h1 _ _ d0).1, (own_cell h1 _ _ d1).1, (own_cell h1 _ _ d2).1, (own_cell h1 _ _ d3).1⟩
/-- Points in memory of one's own. -/
def OwnP (w : World) (B : Nat) (A : Option Addr) (l : List Pt) : Prop :=
  0 < l.length → ∃ g, A = some ⟨g, 0, none⟩ ∧ B ≤ g ∧ RowP w g l.length (fun i => l.getD i zeroP) ∧ ∀ p ∈ l, FreP w B g p
theorem OwnP.rd {w : World} {B : Nat} {A : Option Addr} {l : List Pt} (h : OwnP w B A l) : RdP w w.heap.size A l := by
  refine ⟨fun hl => ?_, fun p hp => ?_⟩
  · obtain ⟨g, rfl, _, hr, _⟩ := h hl
    refine ⟨g, 0, rfl, hr.1, Nat.le_refl _, fun i hi => ?_⟩
    obtain ⟨a0, a1, _⟩ := hr.2 i hi
    rw [Nat.zero_add]
    exact ⟨a0, a1⟩
  · obtain ⟨g, _, _, _, hf⟩ := h (List.length_pos_of_mem hp)
    exact (hf p hp).rd
/-- Two lists of points are the same, but for where the files stand. -/
def sameP (l' l : List Pt) : Prop := l'.length = l.length ∧ ∀ i, i < l.length → (l'.getD i zeroP).id = (l.getD i zeroP).id ∧ (l'.getD i zeroP).fs = (l.getD i zeroP).fs
theorem getD_map_range (z : Nat → Pt) {n i : Nat} (h : i < n) : ((List.range n).map z).getD i zeroP = z i := by
  rw [List.getD_eq_getElem?_getD, List.getElem?_map, List.getElem?_range h]
  rfl
set_option maxRecDepth 100000 in
set_option maxHeartbeats 2000000 in
theorem own_any (A : Option Addr) (c n : Nat) (l : List Pt) (w : World) (hl : l.length = n) (hA : RdP w w.heap.size A l) (hn : n ≤ 1000000) (hf : ∀ p ∈ l, p.fs.length ≤ 1000000) :
    Calls Try.prog 31 #[.slice A n c] w fun e w' => ∃ A' c' l', e = .returned (.slice A' n c') ∧ sameP l' l ∧ OwnP w' w.heap.size A' l' ∧ Below w.heap.size w w' := by
  have HA := Lib.hid hA
  have HL := Lib.hid hl
  have HF := Lib.hid hf
  clear hA hl hf
  go_enter Try.func31, Try.ntmps31
  go_wp2_with (fail)
  refine (cloneP_any A n c w.heap.size l w HL.out HA.out hn).mono ?_
  rintro e w1 ⟨v, rfl, hown, hb1⟩
  have HO := Lib.hid hown
  have hs1 := hb1.size
  have HB1 := Lib.hid hb1
  rcases own_form hown with ⟨rfl, h0⟩ | ⟨g, cap, rfl, hcap, hBg, hg⟩
  · subst h0
    clear hown hb1
    go_wp2_with (fail)
    go_loopw [9] (fun vi wr => vi = .int .i64 0 ∧ w1 = wr) (fun _ _ => 0)
    case atStart => exact ⟨rfl, rfl⟩
    case round =>
      obtain ⟨rfl, rfl⟩ := hrel
      go_wp2_with (fail)
      go_ret
      exact ⟨none, 0, [], rfl, ⟨by rw [HL.out]; rfl, fun i hi => by rw [HL.out] at hi; omega⟩, fun h => by simp at h, HB1.out⟩
  · have hrow := RowP.of_own hown HL.out hg
    have HR := Lib.hid hrow
    clear hown hb1 hrow
    go_wp2_with (fail)
    go_loopw [9] (fun vi wr => ∃ (i : Nat) (z : Nat → Pt), i ≤ n ∧ vi = .int .i64 i ∧ RowP wr g n z ∧ (∀ j, j < n → (z j).id = (l.getD j zeroP).id ∧ (z j).fs = (l.getD j zeroP).fs) ∧ (∀ j, j < i → FreP wr w.heap.size g (z j)) ∧ (∀ j, i ≤ j → z j = l.getD j zeroP) ∧ Below w.heap.size w wr) (fun i _ => n - (intOf i).toNat)
    case atStart => exact ⟨0, fun i => l.getD i zeroP, Nat.zero_le _, rfl, HR.out, fun j _ => ⟨rfl, rfl⟩, fun j hj => by omega, fun j _ => rfl, HB1.out⟩
    case round =>
      obtain ⟨i, z, hin, rfl, hr, hid, hfr, hrest, hbl⟩ := hrel
      have HRW := Lib.hid hr
      have HID := Lib.hid hid
      have HFR := Lib.hid hfr
      have HRS := Lib.hid hrest
      have HBL := Lib.hid hbl
      have hws := hbl.size
      by_cases hi : i < n
      · have hi0 : (0 : Int) ≤ (i : Int) := by omega
        have hi1 : (i : Int) < (n : Int) := by omega
        have hzi := hrest i (Nat.le_refl _)
        have hpm : l.getD i zeroP ∈ l := getP_mem (by rw [HL.out]; exact hi)
        obtain ⟨hps, hpc⟩ := HA.out.2 _ hpm
        have hp1 := HF.out _ hpm
        obtain ⟨p, hp⟩ : ∃ p, l.getD i zeroP = p := ⟨_, rfl⟩
        rw [hp] at hzi hps hpc hp1
        obtain ⟨_, a1, a2⟩ := hr.2 i hi
        have hgw := hr.1
        rw [hzi] at a1
        have HP := Lib.hid hp
        have HZI := Lib.hid hzi
        obtain ⟨pid, fs, PA, pc⟩ := p
        dsimp only at *
        obtain ⟨m, hm⟩ : ∃ m, fs.length = m := ⟨_, rfl⟩
        rw [hm] at a1 hpc hp1
        have HM := Lib.hid hm
        have HPS := Lib.hid (hps.below (HBL.out))
        clear hr hid hfr hrest hbl hpm hps hp hzi hm
        go_wp2_with ((go_at_call 45; refine Hid.out ?_))
        refine Lib.hid ?_
        refine (cloneS_any PA m pc w.heap.size fs wr HM.out HPS.out hp1).mono ?_
        rintro e w2 ⟨vs, rfl, hown2, hb2⟩
        have hs2 := hb2.size
        obtain ⟨A2, c2, rfl, hA2⟩ : ∃ A2 c2, vs = .slice A2 m c2 ∧ ∀ a, A2 = some a → wr.heap.size ≤ a.block := by
          rcases own_form hown2 with ⟨rfl, h0⟩ | ⟨g2, c2, rfl, _, hB2, _⟩
          · exact ⟨none, 0, by rw [h0], fun a h => by cases h⟩
          · exact ⟨_, c2, rfl, fun a h => by cases h; exact hB2⟩
        have k2 : Kw (fun _ => False) wr w2 := Kw.ofBelow hb2
        have hrw2 := HRW.out.kw k2 (fun h => h)
        have a2' := (hrw2.2 i hi).2.2
        have a1' := (hrw2.2 i hi).2.1
        rw [HZI.out] at a1'
        dsimp only at a1'
        have hg2 := hrw2.1
        have hset := hrw2.set hi ⟨pid, fs, A2, c2⟩ (by rw [HZI.out])
        dsimp only at hset
        rw [HM.out] at hset a1'
        have kS : Kw (fun b => b = g) wr (w2.setCell ⟨g, i * 2 + 1, none⟩ (.slice A2 m c2)) := Kw.setCell (S := fun b => b = g) (p := ⟨g, i * 2 + 1, none⟩) (k2.mono (fun b _ h => False.elim h)) rfl _
        have HS2 : Hid (RowP (w2.setCell ⟨g, i * 2 + 1, none⟩ (.slice A2 m c2)) g n (fun j => if j = i then ⟨pid, fs, A2, c2⟩ else z j)) := Lib.hid hset
        have HB2 : Hid (Below w.heap.size w (w2.setCell ⟨g, i * 2 + 1, none⟩ (.slice A2 m c2))) := Lib.hid ((HBL.out.trans (hb2.mono hws)).setCell hBg _)
        have HF2 : Hid (∀ j, j < i + 1 → FreP (w2.setCell ⟨g, i * 2 + 1, none⟩ (.slice A2 m c2)) w.heap.size g (if j = i then ⟨pid, fs, A2, c2⟩ else z j)) := Lib.hid (fun j hj => by
          by_cases hji : j = i
          · rw [if_pos hji]
            have h1 : FreP w2 w.heap.size g ⟨pid, fs, A2, c2⟩ := ⟨own_le (by rw [HM.out]; exact hown2) hws, fun a ha => by have := hA2 a ha; omega⟩
            exact h1.kw (Kw.setCell (S := fun b => b = g) (p := ⟨g, i * 2 + 1, none⟩) (Kw.refl _ w2) rfl _) (fun a ha => by have := hA2 a ha; omega)
          · rw [if_neg hji]
            exact (HFR.out j (by omega)).kw kS (fun a ha => (HFR.out j (by omega)).2 a ha))
        have HI2 : Hid (∀ j, j < n → (if j = i then (⟨pid, fs, A2, c2⟩ : Pt) else z j).id = (l.getD j zeroP).id ∧ (if j = i then (⟨pid, fs, A2, c2⟩ : Pt) else z j).fs = (l.getD j zeroP).fs) := Lib.hid (fun j hj => by
          by_cases hji : j = i
          · rw [if_pos hji, hji, HP.out]
            exact ⟨rfl, rfl⟩
          · rw [if_neg hji]
            exact HID.out j hj)
        have HR2 : Hid (∀ j, i + 1 ≤ j → (if j = i then (⟨pid, fs, A2, c2⟩ : Pt) else z j) = l.getD j zeroP) := Lib.hid (fun j hj => by
          rw [if_neg (by omega)]
          exact HRS.out j (by omega))
        clear hown2 hb2 hA2 k2 hrw2 hset kS a1 a2
        go_wp2_with (fail)
        go_roundw
        case rel => exact ⟨i + 1, _, by omega, by first | rfl | (push_cast; rfl) | go_num, HS2.out, HI2.out, HF2.out, HR2.out, HB2.out⟩
        case measure => simp [intOf]; omega
      · have hine : i = n := by omega
        subst hine
        have hirr : ¬ (i : Int) < (i : Int) := by omega
        clear hr hid hfr hrest hbl
        go_wp2_with (fail)
        go_ret
        refine ⟨_, ⟨_, rfl⟩, (List.range i).map z, ⟨by simp [HL.out], fun j hj => ?_⟩, fun hl0 => ⟨g, rfl, hBg, ?_, fun p hp => ?_⟩, HBL.out⟩
        · rw [getD_map_range z (by rw [← HL.out]; exact hj)]
          exact HID.out j (by rw [← HL.out]; exact hj)
        · rw [List.length_map, List.length_range]
          exact ⟨HRW.out.1, fun j hj => by have h := HRW.out.2 j hj; rw [← getD_map_range z hj] at h; exact h⟩
        · obtain ⟨j, hj, rfl⟩ := List.mem_map.1 hp
          exact HFR.out j (List.mem_range.1 hj)
end Go.Proofs.Ytmalcekbhnkfgaa
