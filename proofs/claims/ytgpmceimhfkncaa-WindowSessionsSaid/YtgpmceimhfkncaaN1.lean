/- A slice of windows as an argument: what it is; and append of such a slice to a row of the call's own. Conditions: as each theorem states them. -/
import Derived.Test.YtgpmceimhfkncaaN0
import Derived.Test.YtgpmceimhfkncaaB3
import Derived.Laws.AppendOwnNone
namespace Go.Proofs.Ytgpmceimhfkncaa
open Go.RowKit Go.ChangeShapes Go.WideShapes Go.Deep
set_option linter.unusedVariables false
set_option linter.unusedSimpArgs false

section
variable {H : Type} {enc : TypeId × Value → H} {w : World} {base : Nat} {spare : Nat → Bool} {held : Bool} {r : Reach} {b0 : Nat}
theorem open_winsN {v : Value} {d : DataW H} {ps : List MemPlace} (hv : Value.okWide Try.prog w r b0 24 v) (h : DataW.Trod enc Try.prog w base spare held 24 v d ps) :
    ∃ A c l, v = .slice A (List.length (α := Int × Int) l) c ∧ RdW w w.heap.size A l ∧ l.length ≤ c ∧ (A = none → c = 0) := by
  obtain ⟨A, c, l, rfl, h1, h2⟩ := open_wins hv h
  refine ⟨A, c, l, rfl, h1, h2, fun hA => ?_⟩
  obtain ⟨fuel, hf⟩ := h
  rcases open_slice Try.underlying24 hf with ⟨h0, _⟩ | ⟨a', len', cap', m, n, D, Pl, h0, _⟩
  · simp [Value.cells] at h0
    exact h0.2.2
  · simp [Value.cells] at h0
    rw [hA] at h0
    cases h0.1
end

theorem wcells_len (l : List (Int × Int)) : (wcells l).length = l.length * 2 := by
  induction l with
  | nil => rfl
  | cons p l ih => simp [wcells] at ih ⊢; omega
theorem wcells_at (l : List (Int × Int)) : ∀ (i : Nat), i < l.length → (wcells l)[i * 2]? = some (.int .i64 (l.getD i (0, 0)).1) ∧ (wcells l)[i * 2 + 1]? = some (.int .i64 (l.getD i (0, 0)).2) := by
  induction l with
  | nil => intro i hi; simp at hi
  | cons p l ih =>
    intro i hi
    cases i with
    | zero => simp [wcells]
    | succ i =>
      have := ih i (by simpa using hi)
      rw [show (i + 1) * 2 = i * 2 + 1 + 1 by omega]
      simpa [wcells] using this
theorem wcells_one (l : List (Int × Int)) : ∀ u ∈ wcells l, u.oneCell' = true := by
  induction l with
  | nil => intro u hu; simp [wcells] at hu
  | cons p l ih =>
    intro u hu
    simp only [wcells, List.flatMap_cons, List.mem_append, List.mem_cons, List.not_mem_nil, or_false] at hu ih
    rcases hu with (rfl | rfl) | hu
    · rfl
    · rfl
    · exact ih u hu
theorem wcells_append (l m : List (Int × Int)) : wcells (l ++ m) = wcells l ++ wcells m := by simp [wcells]
theorem rd_cells {w : World} {B : Nat} {b off : Nat} {l : List (Int × Int)} (h : RdW w B (some ⟨b, off, none⟩) l) : ∀ (j : Nat) u, (wcells l)[j]? = some u → w.cell? ((⟨b, off, none⟩ : Addr).add j) = some u := by
  intro j u hu
  have hj : j < l.length * 2 := by rw [← wcells_len]; exact (List.getElem?_eq_some_iff.1 hu).1
  obtain ⟨b', off', e, _, c1, c2⟩ := h.at_ (k := j / 2) (by omega)
  cases e
  obtain ⟨d1, d2⟩ := wcells_at l (j / 2) (by omega)
  rw [Addr.add_lit]
  rcases Nat.mod_two_eq_zero_or_one j with h0 | h0
  · have e : j = j / 2 * 2 := by omega
    rw [e] at hu ⊢
    rw [hu] at d1
    rw [c1, ← d1]
  · have e : j = j / 2 * 2 + 1 := by omega
    rw [e] at hu ⊢
    rw [hu] at d2
    rw [← Nat.add_assoc, c2, ← d2]

/-- append of a slice of windows to a row of the call's own. -/
theorem wpList_append_l {ops : Array Oper} {rest : List Oper} {o : Oper} {a : Act} {Q : Exit → Act → World → Prop} (w : World) (hgd : o.guard = none) (s x : Operand)
    (ho : o.op = .call { callee := .builtin .append, args := #[s, x], argTypes := #[24, 24] }) (base n : Nat) (v : Value) (xs : List Value) (hs : a.eval s = v) (hown : w.ownsRow base 33 2 v n xs)
    (A : Option Addr) (c B : Nat) (l : List (Int × Int)) (hx : a.eval x = .slice A l.length c) (hr : RdW w B A l) (hnone : A = none → c = 0) (hn : n + l.length ≤ 1000001) (hbase : base ≤ w.heap.size)
    (h : ∀ v' w', w'.ownsRow base 33 2 v' (n + l.length) (xs ++ wcells l) → w.grownBy w' v.ownBlock → wpList Try.prog ops Q rest (a.put o.dst v') w') : wpList Try.prog ops Q (o :: rest) a w := by
  obtain ⟨i0, hi, hz0, hz1, hz2⟩ := info_parts Try.info33
  rcases A with _ | ad
  · have hl : l = [] := by
      rcases hr.cases with h0 | ⟨b, off, e, _⟩
      · exact h0
      · cases e
    subst hl
    obtain rfl := hnone rfl
    refine wpList_append_own_none hgd s x 24 ho base 33 i0 2 Try.underlying24 hi v n xs hs hown hx ?_
    refine h v w (by simpa [wcells] using hown) ?_
    exact ⟨rfl, rfl, rfl, Nat.le_refl _, fun i hi _ => rfl⟩
  · refine wpList_append_own w hgd s x 24 ho base 33 i0 (.agg #[.int .i64 0, .int .i64 0]) 2 16 Try.underlying24 hi hz0 hz1 hz2 rfl (by decide) v n xs hs hown ad l.length c (wcells l) hx (wcells_len l) ?_ (wcells_one l) (by simp [maxLen]; omega) (by omega) hbase (fun v' w' h1 h2 _ => h v' w' h1 h2)
    rcases hr.cases with rfl | ⟨b, off, e, _⟩
    · intro j u hu; simp [wcells] at hu
    · cases e
      exact rd_cells hr
end Go.Proofs.Ytgpmceimhfkncaa
