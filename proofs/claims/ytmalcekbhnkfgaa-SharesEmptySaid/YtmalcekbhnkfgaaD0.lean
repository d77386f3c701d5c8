/- Rows of files and of points of the call's own; append of a slice to such a row. Conditions: as each theorem states them. -/
import Derived.Test.YtmalcekbhnkfgaaB9
import Derived.Laws.AppendOwnNone
namespace Go.Proofs.Ytmalcekbhnkfgaa
open Go.RowKit Go.Maps
set_option linter.unusedVariables false
set_option linter.unusedSimpArgs false

def scells (l : List Sh) : List Value := l.flatMap (fun f => [.int .u64 f.tb, .int .i64 f.sz, .int .u32 f.sm, .int .u64 f.nm])
def pcells (l : List Pt) : List Value := l.flatMap (fun p => [.int .u64 p.id, .slice p.A p.fs.length p.c])
theorem scells_length (l : List Sh) : (scells l).length = l.length * 4 := by
  induction l with
  | nil => rfl
  | cons p l ih => simp [scells] at ih ⊢; omega
theorem pcells_length (l : List Pt) : (pcells l).length = l.length * 2 := by
  induction l with
  | nil => rfl
  | cons p l ih => simp [pcells] at ih ⊢; omega
theorem scells_append (l m : List Sh) : scells (l ++ m) = scells l ++ scells m := by simp [scells]
theorem pcells_append (l m : List Pt) : pcells (l ++ m) = pcells l ++ pcells m := by simp [pcells]
theorem scells_one (l : List Sh) : ∀ u ∈ scells l, u.oneCell' = true := by
  intro u hu
  obtain ⟨x, _, hx⟩ := List.mem_flatMap.1 hu
  simp at hx
  rcases hx with rfl | rfl | rfl | rfl <;> rfl
theorem pcells_one (l : List Pt) : ∀ u ∈ pcells l, u.oneCell' = true := by
  intro u hu
  obtain ⟨x, _, hx⟩ := List.mem_flatMap.1 hu
  simp at hx
  rcases hx with rfl | rfl <;> rfl
theorem scells_get (l : List Sh) : ∀ i, i < l.length → (scells l)[i * 4]? = some (.int .u64 (l.getD i zeroS).tb) ∧ (scells l)[i * 4 + 1]? = some (.int .i64 (l.getD i zeroS).sz) ∧ (scells l)[i * 4 + 2]? = some (.int .u32 (l.getD i zeroS).sm) ∧ (scells l)[i * 4 + 3]? = some (.int .u64 (l.getD i zeroS).nm) := by
  induction l with
  | nil => intro i hi; simp at hi
  | cons p l ih =>
    intro i hi
    cases i with
    | zero => simp [scells]
    | succ i =>
      have := ih i (by simpa using hi)
      rw [show (i + 1) * 4 = i * 4 + 1 + 1 + 1 + 1 by omega]
      simpa [scells] using this
theorem pcells_get (l : List Pt) : ∀ i, i < l.length → (pcells l)[i * 2]? = some (.int .u64 (l.getD i zeroP).id) ∧ (pcells l)[i * 2 + 1]? = some (.slice (l.getD i zeroP).A (l.getD i zeroP).fs.length (l.getD i zeroP).c) := by
  induction l with
  | nil => intro i hi; simp at hi
  | cons p l ih =>
    intro i hi
    cases i with
    | zero => simp [pcells]
    | succ i =>
      have := ih i (by simpa using hi)
      rw [show (i + 1) * 2 = i * 2 + 1 + 1 by omega]
      simpa [pcells] using this
theorem rdS_cells {w : World} {B b off : Nat} {l : List Sh} (h : RdS w B (some ⟨b, off, none⟩) l) : ∀ (j : Nat) u, (scells l)[j]? = some u → w.cell? ((⟨b, off, none⟩ : Addr).add j) = some u := by
  intro j u hu
  have hj : j < l.length * 4 := by rw [← scells_length]; exact (List.getElem?_eq_some_iff.1 hu).1
  obtain ⟨b', off', e, _, _, hc⟩ := h (by omega)
  cases e
  obtain ⟨c0, c1, c2, c3⟩ := hc (j / 4) (by omega)
  obtain ⟨d0, d1, d2, d3⟩ := scells_get l (j / 4) (by omega)
  rw [Addr.add_lit]
  have h4 : j % 4 = 0 ∨ j % 4 = 1 ∨ j % 4 = 2 ∨ j % 4 = 3 := by omega
  rcases h4 with h | h | h | h
  · have e : j = j / 4 * 4 := by omega
    rw [e] at hu ⊢
    rw [hu] at d0
    rw [c0, ← d0]
  · have e : j = j / 4 * 4 + 1 := by omega
    rw [e] at hu ⊢
    rw [hu] at d1
    rw [← Nat.add_assoc, c1, ← d1]
  · have e : j = j / 4 * 4 + 2 := by omega
    rw [e] at hu ⊢
    rw [hu] at d2
    rw [← Nat.add_assoc, c2, ← d2]
  · have e : j = j / 4 * 4 + 3 := by omega
    rw [e] at hu ⊢
    rw [hu] at d3
    rw [← Nat.add_assoc, c3, ← d3]
theorem rdP_cells {w : World} {B b off : Nat} {l : List Pt} (h : RdP w B (some ⟨b, off, none⟩) l) : ∀ (j : Nat) u, (pcells l)[j]? = some u → w.cell? ((⟨b, off, none⟩ : Addr).add j) = some u := by
  intro j u hu
  have hj : j < l.length * 2 := by rw [← pcells_length]; exact (List.getElem?_eq_some_iff.1 hu).1
  obtain ⟨b', off', e, _, _, hc⟩ := h.1 (by omega)
  cases e
  obtain ⟨c0, c1⟩ := hc (j / 2) (by omega)
  obtain ⟨d0, d1⟩ := pcells_get l (j / 2) (by omega)
  rw [Addr.add_lit]
  have h4 : j % 2 = 0 ∨ j % 2 = 1 := by omega
  rcases h4 with h | h
  · have e : j = j / 2 * 2 := by omega
    rw [e] at hu ⊢
    rw [hu] at d0
    rw [c0, ← d0]
  · have e : j = j / 2 * 2 + 1 := by omega
    rw [e] at hu ⊢
    rw [hu] at d1
    rw [← Nat.add_assoc, c1, ← d1]
theorem und22' : Try.prog.underlying 22 = some (.slice 26) := by kernel_rfl
theorem und24' : Try.prog.underlying 24 = some (.slice 36) := by kernel_rfl
theorem i26 : (Try.prog.info? 26).map (fun i => (i.zero, i.size, i.bytes)) = some (some (.agg #[.int .u64 0, .slice none 0 0]), 2, 32) := by kernel_rfl
theorem i36 : (Try.prog.info? 36).map (fun i => (i.zero, i.size, i.bytes)) = some (some (.agg #[.int .u64 0, .int .i64 0, .int .u32 0, .int .u64 0]), 4, 32) := by kernel_rfl
/-- append of a slice of files to a row of the call's own. -/
theorem wpList_append_s {ops : Array Oper} {rest : List Oper} {o : Oper} {a : Act} {Q : Exit → Act → World → Prop} (w : World) (hw : Region.wanted o (yielded ops a.tmps) = true) (s x : Operand)
    (ho : o.op = .call { callee := .builtin .append, args := #[s, x], argTypes := #[24, 24] }) (base n : Nat) (v : Value) (xs : List Sh) (hs : a.eval s = v) (hown : w.ownsRow base 36 4 v n (scells xs))
    (A : Option Addr) (m c B : Nat) (l : List Sh) (hm : l.length = m) (hx : a.eval x = .slice A m c) (hr : RdS w B A l) (hnone : A = none → c = 0 ∧ m = 0) (hn : n + m ≤ 1000001) (hbase : base ≤ w.heap.size)
    (h : ∀ v' w', w'.ownsRow base 36 4 v' (n + m) (scells (xs ++ l)) → w.grownBy w' v.ownBlock → wpList Try.prog ops Q rest (a.put o.dst v') w') : wpList Try.prog ops Q (o :: rest) a w := by
  obtain ⟨i0, hi, hz0, hz1, hz2⟩ := info_parts i36
  refine wpList_step fun K hK => ?_
  rw [if_pos hw]
  subst hm
  by_cases hl : l = [] ∧ A = none
  · obtain ⟨rfl, rfl⟩ := hl
    obtain ⟨rfl, _⟩ := hnone rfl
    have hrun := run_append_owned_none (P := Try.prog) (w := w) base 24 o.type 36 i0 4 und24' hi v n (scells xs) hown
    unfold Oper.wp
    simp [execOp, ho, resolve, invoke, builtin, hs, hx, hrun, Result.andThen]
    exact hK _ _ (h v w (by simpa using hown) ⟨rfl, rfl, rfl, Nat.le_refl _, fun _ _ _ => rfl⟩)
  · obtain ⟨ad, rfl⟩ : ∃ ad, A = some ad := by
      cases A with
      | some ad => exact ⟨ad, rfl⟩
      | none =>
        exfalso
        have := (hnone rfl).2
        exact hl ⟨List.length_eq_zero_iff.1 this, rfl⟩
    have hnews : ∀ j u, (scells l)[j]? = some u → w.cell? (ad.add j) = some u := by
      intro j u hu
      have hj : j < (scells l).length := (List.getElem?_eq_some_iff.1 hu).1
      rw [scells_length] at hj
      obtain ⟨b, off, e, _⟩ := hr (by omega)
      cases e
      exact rdS_cells hr j u hu
    exact wp_append_own w s x 24 ho base 36 i0 (.agg #[.int .u64 0, .int .i64 0, .int .u32 0, .int .u64 0]) 4 32 und24' hi hz0 hz1 hz2 rfl (by decide) v n (scells xs) hs hown ad l.length c (scells l) hx (scells_length l) hnews (scells_one l) (by unfold maxLen; omega) (by omega) hbase (fun v' w' h1 h2 _ => hK _ _ (h v' w' (by rw [scells_append]; exact h1) h2))
/-- append of a slice of points to a row of the call's own. -/
theorem wpList_append_p {ops : Array Oper} {rest : List Oper} {o : Oper} {a : Act} {Q : Exit → Act → World → Prop} (w : World) (hw : Region.wanted o (yielded ops a.tmps) = true) (s x : Operand)
    (ho : o.op = .call { callee := .builtin .append, args := #[s, x], argTypes := #[22, 22] }) (base n : Nat) (v : Value) (xs : List Pt) (hs : a.eval s = v) (hown : w.ownsRow base 26 2 v n (pcells xs))
    (A : Option Addr) (m c : Nat) (l : List Pt) (hm : l.length = m) (hx : a.eval x = .slice A m c) (hr : ∀ ad, A = some ad → ∀ j u, (pcells l)[j]? = some u → w.cell? (ad.add j) = some u) (hnone : A = none → c = 0 ∧ m = 0) (hn : n + m ≤ 1000001) (hbase : base ≤ w.heap.size)
    (h : ∀ v' w', w'.ownsRow base 26 2 v' (n + m) (pcells (xs ++ l)) → w.grownBy w' v.ownBlock → wpList Try.prog ops Q rest (a.put o.dst v') w') : wpList Try.prog ops Q (o :: rest) a w := by
  obtain ⟨i0, hi, hz0, hz1, hz2⟩ := info_parts i26
  refine wpList_step fun K hK => ?_
  rw [if_pos hw]
  subst hm
  by_cases hl : l = [] ∧ A = none
  · obtain ⟨rfl, rfl⟩ := hl
    obtain ⟨rfl, _⟩ := hnone rfl
    have hrun := run_append_owned_none (P := Try.prog) (w := w) base 22 o.type 26 i0 2 und22' hi v n (pcells xs) hown
    unfold Oper.wp
    simp [execOp, ho, resolve, invoke, builtin, hs, hx, hrun, Result.andThen]
    exact hK _ _ (h v w (by simpa using hown) ⟨rfl, rfl, rfl, Nat.le_refl _, fun _ _ _ => rfl⟩)
  · obtain ⟨ad, rfl⟩ : ∃ ad, A = some ad := by
      cases A with
      | some ad => exact ⟨ad, rfl⟩
      | none =>
        exfalso
        have := (hnone rfl).2
        exact hl ⟨List.length_eq_zero_iff.1 this, rfl⟩
    exact wp_append_own w s x 22 ho base 26 i0 (.agg #[.int .u64 0, .slice none 0 0]) 2 32 und22' hi hz0 hz1 hz2 rfl (by decide) v n (pcells xs) hs hown ad l.length c (pcells l) hx (pcells_length l) (hr ad rfl) (pcells_one l) (by unfold maxLen; omega) (by omega) hbase (fun v' w' h1 h2 _ => hK _ _ (h v' w' (by rw [pcells_append]; exact h1) h2))
/-- Cells of a row of one's own. -/
theorem own_cell {w : World} {B n sz : Nat} {e : TypeId} {g off' n' c : Nat} {xs : List Value} (h : w.ownsRow B e sz (.slice (some ⟨g, off', none⟩) n' c) n xs) : ∀ j u, xs[j]? = some u → w.cell? ⟨g, j, none⟩ = some u ∧ w.frozen? ⟨g, j, none⟩ = false := by
  intro j u hu
  rcases h.2 with ⟨e0, _⟩ | ⟨g', c', cur, e0, hb, hg, hnc, hcm, hs, ht⟩
  · cases e0
  · cases e0
    rw [← ht, List.getElem?_take] at hu
    split at hu
    · refine ⟨?_, by simp [World.frozen?, hg]⟩
      simp only [World.cell?, hg]
      simpa using hu
    · cases hu
theorem own_form {w : World} {B n sz : Nat} {e : TypeId} {v : Value} {xs : List Value} (h : w.ownsRow B e sz v n xs) : (v = .slice none 0 0 ∧ n = 0) ∨ ∃ g c, v = .slice (some ⟨g, 0, none⟩) n c ∧ n ≤ c ∧ B ≤ g ∧ g < w.heap.size := by
  rcases h.2 with ⟨rfl, h0⟩ | ⟨g, c, cur, rfl, hb, hg, hnc, hcm, hs, ht⟩
  · exact .inl ⟨rfl, h0⟩
  · exact .inr ⟨g, c, rfl, hnc, hb, (Array.getElem?_eq_some_iff.1 hg).1⟩
end Go.Proofs.Ytmalcekbhnkfgaa
