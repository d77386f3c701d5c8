/- The walk of the law TimersParted. Conditions: as each theorem states them. -/
import Derived.Test.YtlmnnbmihimedaaT3
import Derived.Laws.AppendOwnNone
namespace Go.Proofs.Ytlmnnbmihimedaa
open Go.RowKit Go.Maps
set_option linter.unusedVariables false
set_option linter.unusedSimpArgs false

theorem rdT_cells {w : World} {B b off : Nat} {l : List Tm} (h : RdT w B (some ⟨b, off, none⟩) l) : ∀ (j : Nat) u, (tcells l)[j]? = some u → w.cell? ((⟨b, off, none⟩ : Addr).add j) = some u := by
  intro j u hu
  rw [tcells_get] at hu
  obtain ⟨x, hx, hu⟩ := Option.bind_eq_some_iff.1 hu
  have hj : j / 3 < l.length := (List.getElem?_eq_some_iff.1 hx).1
  obtain ⟨b', off', e, _, _, hc⟩ := h (by omega)
  cases e
  obtain ⟨c0, c1, c2⟩ := hc (j / 3) hj
  have hg : l.getD (j / 3) zeroT = x := by rw [List.getD_eq_getElem?_getD, hx]; rfl
  rw [hg] at c0 c1 c2
  rw [Addr.add_lit]
  have h3 : j % 3 = 0 ∨ j % 3 = 1 ∨ j % 3 = 2 := by omega
  rcases h3 with h3 | h3 | h3
  · rw [h3] at hu
    rw [show off + j = off + j / 3 * 3 by omega, c0]
    exact hu
  · rw [h3] at hu
    rw [show off + j = off + j / 3 * 3 + 1 by omega, c1]
    exact hu
  · rw [h3] at hu
    rw [show off + j = off + j / 3 * 3 + 2 by omega, c2]
    exact hu
theorem tcells_one (l : List Tm) : ∀ u ∈ tcells l, u.oneCell' = true := by
  intro u hu
  obtain ⟨x, _, hx⟩ := List.mem_flatMap.1 hu
  simp at hx
  rcases hx with rfl | rfl | rfl <;> rfl
theorem tcells_append (l m : List Tm) : tcells (l ++ m) = tcells l ++ tcells m := by simp [tcells]
/-- append of a slice of timers to a row of the call's own. -/
theorem wpList_append_t {ops : Array Oper} {rest : List Oper} {o : Oper} {a : Act} {Q : Exit → Act → World → Prop} (w : World) (hw : Region.wanted o (yielded ops a.tmps) = true) (s x : Operand)
    (ho : o.op = .call { callee := .builtin .append, args := #[s, x], argTypes := #[30, 30] }) (base n : Nat) (v : Value) (xs : List Tm) (hs : a.eval s = v) (hown : w.ownsRow base 23 3 v n (tcells xs))
    (A : Option Addr) (m c B : Nat) (l : List Tm) (hm : l.length = m) (hx : a.eval x = .slice A m c) (hr : RdT w B A l) (hnone : A = none → c = 0 ∧ m = 0) (hn : n + m ≤ 1000001) (hbase : base ≤ w.heap.size)
    (h : ∀ v' w', w'.ownsRow base 23 3 v' (n + m) (tcells (xs ++ l)) → w.grownBy w' v.ownBlock → wpList Try.prog ops Q rest (a.put o.dst v') w') : wpList Try.prog ops Q (o :: rest) a w := by
  obtain ⟨i0, hi, hz0, hz1, hz2⟩ := info_parts i23
  refine wpList_step fun K hK => ?_
  rw [if_pos hw]
  subst hm
  by_cases hl : l = [] ∧ A = none
  · obtain ⟨rfl, rfl⟩ := hl
    obtain ⟨rfl, _⟩ := hnone rfl
    have hrun := run_append_owned_none (P := Try.prog) (w := w) base 30 o.type 23 i0 3 und30 hi v n (tcells xs) hown
    unfold Oper.wp
    simp [execOp, ho, resolve, invoke, builtin, hs, hx, hrun, Result.andThen]
    exact hK _ _ (h v w (by simpa using hown) ⟨rfl, rfl, rfl, Nat.le_refl _, fun _ _ _ => rfl⟩)
  · obtain ⟨ad, rfl⟩ : ∃ ad, A = some ad := by
      cases A with
      | some ad => exact ⟨ad, rfl⟩
      | none =>
        exfalso
        have := (hnone rfl).2
        exact hl ⟨List.length_eq_zero_iff.1 this, rfl⟩
    have hnews : ∀ j u, (tcells l)[j]? = some u → w.cell? (ad.add j) = some u := by
      intro j u hu
      have hj : j < (tcells l).length := (List.getElem?_eq_some_iff.1 hu).1
      rw [tcells_length] at hj
      obtain ⟨b, off, e, _⟩ := hr (by omega)
      cases e
      exact rdT_cells hr j u hu
    exact wp_append_own w s x 30 ho base 23 i0 (.agg #[.int .i64 0, .string ⟨#[]⟩, .string ⟨#[]⟩]) 3 40 und30 hi hz0 hz1 hz2 rfl (by decide) v n (tcells xs) hs hown ad l.length c (tcells l) hx (tcells_length l) hnews (tcells_one l) (by unfold maxLen; omega) (by omega) hbase (fun v' w' h1 h2 _ => hK _ _ (h v' w' (by rw [tcells_append]; exact h1) h2))
/-- What is put, of a list that is not too long. -/
theorem putT_mem {T : List Tm} {x y : Tm} (hn : T.length < 1024) : y ∈ putT T x ↔ y ∈ T ∨ (y = x ∧ chkT x = 0) := by
  unfold putT putR
  by_cases hc : chkT x = 0
  · by_cases hm : x ∈ T
    · simp only [hc, hm]
      simp
      rintro rfl
      exact hm
    · have h1 : ¬ 1024 ≤ T.length := by omega
      simp [hc, hm, h1, or_comm]
  · simp [hc]
theorem putT_length (T : List Tm) (x : Tm) : (putT T x).length ≤ T.length + 1 := by
  rcases putT_cases T x with h | h <;> rw [h] <;> simp
theorem putT_nodup {T : List Tm} {x : Tm} (h : T.Nodup) : (putT T x).Nodup := by
  unfold putT
  split
  · rename_i hr
    refine List.nodup_cons.2 ⟨fun hm => ?_, h⟩
    unfold putR at hr
    by_cases hc : chkT x = 0
    · simp [hc, hm] at hr
    · simp [hc] at hr
  · exact h
theorem putAll_spec : ∀ (l T : List Tm), T.length + l.length ≤ 1024 → T.Nodup → (putAll T l).Nodup ∧ (putAll T l).length ≤ T.length + l.length ∧ ∀ y, y ∈ putAll T l ↔ y ∈ T ∨ (y ∈ l ∧ chkT y = 0)
  | [], T, hn, hd => ⟨hd, Nat.le_refl _, fun y => by simp [putAll]⟩
  | x :: l, T, hn, hd => by
    have hl := putT_length T x
    simp only [List.length_cons] at hn
    obtain ⟨h1, h2, h3⟩ := putAll_spec l (putT T x) (by omega) (putT_nodup hd)
    refine ⟨h1, by simp only [List.length_cons]; show (putAll (putT T x) l).length ≤ _; omega, fun y => ?_⟩
    show y ∈ putAll (putT T x) l ↔ _
    rw [h3, putT_mem (by omega)]
    constructor
    · rintro ((h | ⟨rfl, h⟩) | ⟨h, h'⟩)
      · exact .inl h
      · exact .inr ⟨by simp, h⟩
      · exact .inr ⟨by simp [h], h'⟩
    · rintro (h | ⟨h, h'⟩)
      · exact .inl (.inl h)
      · rcases List.mem_cons.1 h with rfl | h
        · exact .inl (.inr ⟨rfl, h'⟩)
        · exact .inr ⟨h, h'⟩
theorem putAll_perm {l l' : List Tm} (h : ∀ y, y ∈ l ↔ y ∈ l') (hn : l.length ≤ 1024) (hn' : l'.length ≤ 1024) : (putAll [] l).Perm (putAll [] l') := by
  obtain ⟨a1, _, a3⟩ := putAll_spec l [] (by simpa using hn) List.nodup_nil
  obtain ⟨b1, _, b3⟩ := putAll_spec l' [] (by simpa using hn') List.nodup_nil
  refine (List.perm_ext_iff_of_nodup a1 b1).2 fun y => ?_
  rw [a3, b3, h]
theorem sorted_eq : ∀ {l m : List Tm}, l.Perm m → l.Pairwise ltT → m.Pairwise ltT → l = m
  | [], m, h, _, _ => (List.nil_perm.1 h).symm
  | a :: l, [], h, _, _ => absurd h.length_eq (by simp)
  | a :: l, b :: m, h, hl, hm => by
    rw [List.pairwise_cons] at hl hm
    have hab : a = b := by
      rcases List.mem_cons.1 (h.mem_iff.1 (List.mem_cons_self (a := a) (l := l))) with h1 | h1
      · exact h1
      · rcases List.mem_cons.1 (h.mem_iff.2 (List.mem_cons_self (a := b) (l := m))) with h2 | h2
        · exact h2.symm
        · exact absurd (ltT_trans (hm.1 a h1) (hl.1 b h2)) (ltT_irrefl _)
    subst hab
    rw [sorted_eq ((List.perm_cons a).1 h) hl.2 hm.2]
end Go.Proofs.Ytlmnnbmihimedaa
