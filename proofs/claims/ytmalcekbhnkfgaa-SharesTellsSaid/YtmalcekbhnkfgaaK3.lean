/- Counts that are put into a row in order; append to rows of counts. Conditions: as each theorem states them. -/
import Derived.Test.YtmalcekbhnkfgaaK2
namespace Go.Proofs.Ytmalcekbhnkfgaa
open Go.RowKit Go.Maps Go.Shelf
set_option linter.unusedVariables false
set_option linter.unusedSimpArgs false

theorem und39' : Try.prog.underlying 39 = some (.slice 43) := by kernel_rfl
/-- append of a slice of counts to a row of the call's own. -/
theorem wpList_append_c {ops : Array Oper} {rest : List Oper} {o : Oper} {a : Act} {Q : Exit → Act → World → Prop} (w : World) (hw : Region.wanted o (yielded ops a.tmps) = true) (s x : Operand)
    (ho : o.op = .call { callee := .builtin .append, args := #[s, x], argTypes := #[39, 39] }) (base n : Nat) (v : Value) (xs : List Value) (hs : a.eval s = v) (hown : w.ownsRow base 43 2 v n xs)
    (A : Option Addr) (m c : Nat) (l : List Value) (hm : l.length = m * 2) (hx : a.eval x = .slice A m c) (hr : ∀ ad, A = some ad → ∀ j u, l[j]? = some u → w.cell? (ad.add j) = some u) (hone : ∀ u ∈ l, u.oneCell' = true) (hnone : A = none → c = 0 ∧ m = 0) (hn : n + m ≤ 1000001) (hbase : base ≤ w.heap.size)
    (h : ∀ v' w', w'.ownsRow base 43 2 v' (n + m) (xs ++ l) → w.grownBy w' v.ownBlock → wpList Try.prog ops Q rest (a.put o.dst v') w') : wpList Try.prog ops Q (o :: rest) a w := by
  obtain ⟨i0, hi, hz0, hz1, hz2⟩ := info_parts i43
  refine wpList_step fun K hK => ?_
  rw [if_pos hw]
  cases A with
  | none =>
    obtain ⟨rfl, rfl⟩ := hnone rfl
    obtain rfl : l = [] := List.length_eq_zero_iff.1 (by omega)
    have hrun := run_append_owned_none (P := Try.prog) (w := w) base 39 o.type 43 i0 2 und39' hi v n xs hown
    unfold Oper.wp
    simp [execOp, ho, resolve, invoke, builtin, hs, hx, hrun, Result.andThen]
    exact hK _ _ (h v w (by simpa using hown) ⟨rfl, rfl, rfl, Nat.le_refl _, fun _ _ _ => rfl⟩)
  | some ad =>
    exact wp_append_own w s x 39 ho base 43 i0 (.agg #[.int .u64 0, .int .i64 0]) 2 16 und39' hi hz0 hz1 hz2 rfl (by decide) v n xs hs hown ad m c l hx hm (hr ad rfl) hone (by unfold maxLen; omega) (by omega) hbase (fun v' w' h1 h2 _ => hK _ _ (h v' w' h1 h2))
theorem cpair_one (z : Nat → Int) (L : List Int) (n : Nat) : ∀ u ∈ cpair z L n, u.oneCell' = true := by
  intro u hu
  unfold cpair at hu
  obtain ⟨j, _, hj⟩ := List.mem_flatMap.1 hu
  simp at hj
  rcases hj with rfl | rfl <;> rfl
theorem cpair_congr {z z' : Nat → Int} (L : List Int) {n : Nat} (h : ∀ j, j < n → z j = z' j) : cpair z L n = cpair z' L n := by
  induction n with
  | zero => rfl
  | succ n ih => rw [cpair_succ, cpair_succ, ih (fun j hj => h j (by omega)), h n (by omega)]
theorem cpair_take (z : Nat → Int) (L : List Int) {k m : Nat} (h : k ≤ m) : (cpair z L m).take (k * 2) = cpair z L k := by
  induction m with
  | zero => obtain rfl : k = 0 := by omega
            rfl
  | succ m ih =>
    rcases Nat.lt_or_ge m k with e | e
    · obtain rfl : k = m + 1 := by omega
      exact List.take_of_length_le (by rw [cpair_length]; exact Nat.le_refl _)
    · rw [cpair_succ, List.take_append_of_le_length (by rw [cpair_length]; omega), ih e]
/-- x comes to the place k. -/
def insz (z : Nat → Int) (k : Nat) (x : Int) : Nat → Int := fun j => if j < k then z j else if j = k then x else z (j - 1)
theorem insz_lt (z : Nat → Int) {k j : Nat} (x : Int) (h : j < k) : insz z k x j = z j := by unfold insz; rw [if_pos h]
theorem insz_at (z : Nat → Int) (k : Nat) (x : Int) : insz z k x k = x := by unfold insz; rw [if_neg (Nat.lt_irrefl _), if_pos rfl]
theorem insz_gt (z : Nat → Int) {k j : Nat} (x : Int) (h : k < j) : insz z k x j = z (j - 1) := by unfold insz; rw [if_neg (by omega), if_neg (by omega)]
theorem cpair_ins (z : Nat → Int) (L : List Int) (x : Int) {k m : Nat} (h : k ≤ m) : cpair (insz z k x) L (m + 1) = (cpair z L k ++ [.int .u64 x, .int .i64 (L.count x : Nat)]) ++ (cpair z L m).drop (k * 2) := by
  induction m with
  | zero =>
    obtain rfl : k = 0 := by omega
    rw [cpair_succ, insz_at]
    simp [cpair]
  | succ m ih =>
    rcases Nat.lt_or_ge m k with e | e
    · obtain rfl : k = m + 1 := by omega
      rw [cpair_succ, insz_at, cpair_congr L (fun j hj => insz_lt z x hj), List.drop_eq_nil_of_le (by rw [cpair_length]; exact Nat.le_refl _), List.append_nil]
    · rw [cpair_succ, ih e, insz_gt z x (by omega), Nat.add_sub_cancel, cpair_succ, List.drop_append_of_le_length (by rw [cpair_length]; omega), List.append_assoc]
/-- In order, each once. -/
def SrtK (z : Nat → Int) (m : Nat) : Prop := ∀ p q, p < q → q < m → z p < z q
theorem SrtK.ins {z : Nat → Int} {m k : Nat} {x : Int} (h : SrtK z m) (hk : k ≤ m) (h1 : ∀ j, j < k → z j < x) (h2 : k < m → x < z k) : SrtK (insz z k x) (m + 1) := fun p q hpq hq => by
  by_cases hqk : q < k
  · rw [insz_lt z x (by omega), insz_lt z x hqk]
    exact h p q hpq (by omega)
  · by_cases hqe : q = k
    · rw [hqe, insz_at, insz_lt z x (by omega)]
      exact h1 p (by omega)
    · rw [insz_gt z x (show k < q by omega)]
      by_cases hpk : p < k
      · rw [insz_lt z x hpk]
        exact h p (q - 1) (by omega) (by omega)
      · by_cases hpe : p = k
        · rw [hpe, insz_at]
          have e2 := h2 (by omega)
          rcases Nat.lt_or_ge k (q - 1) with e | e
          · have := h k (q - 1) e (by omega)
            omega
          · rw [show q - 1 = k by omega]
            exact e2
        · rw [insz_gt z x (show k < p by omega)]
          exact h (p - 1) (q - 1) (by omega) (by omega)
theorem ins_mem {z : Nat → Int} {m k : Nat} {x : Int} (hk : k ≤ m) (y : Int) : (∃ j, j < m + 1 ∧ insz z k x j = y) ↔ (∃ j, j < m ∧ z j = y) ∨ y = x := by
  constructor
  · rintro ⟨j, hj, e⟩
    by_cases h1 : j < k
    · rw [insz_lt z x h1] at e
      exact Or.inl ⟨j, by omega, e⟩
    · by_cases h2 : j = k
      · rw [h2, insz_at] at e
        exact Or.inr e.symm
      · rw [insz_gt z x (by omega)] at e
        exact Or.inl ⟨j - 1, by omega, e⟩
  · rintro (⟨j, hj, e⟩ | rfl)
    · by_cases h1 : j < k
      · exact ⟨j, by omega, by rw [insz_lt z x h1]; exact e⟩
      · exact ⟨j + 1, by omega, by rw [insz_gt z x (by omega), Nat.add_sub_cancel]; exact e⟩
    · exact ⟨k, by omega, insz_at z k y⟩
theorem keys_same {z z' : Nat → Int} {n n' : Nat} (h : SrtK z n) (h' : SrtK z' n') (hm : ∀ y, (∃ j, j < n ∧ z j = y) ↔ ∃ j, j < n' ∧ z' j = y) : n = n' ∧ ∀ j, j < n → z j = z' j := by
  have pw : ∀ {z : Nat → Int} {n : Nat}, SrtK z n → ((List.range n).map z).Pairwise (· < ·) := fun {z n} h => by
    rw [List.pairwise_iff_getElem]
    intro i j hi hj hij
    simp at hi hj ⊢
    exact h i j hij hj
  have mem : ∀ (z : Nat → Int) (n : Nat) (y : Int), y ∈ (List.range n).map z ↔ ∃ j, j < n ∧ z j = y := fun z n y => by
    rw [List.mem_map]
    constructor
    · rintro ⟨j, hj, e⟩
      exact ⟨j, List.mem_range.1 hj, e⟩
    · rintro ⟨j, hj, e⟩
      exact ⟨j, List.mem_range.2 hj, e⟩
  have nd : ∀ {z : Nat → Int} {n : Nat}, SrtK z n → ((List.range n).map z).Nodup := fun h => (pw h).imp (fun h e => by omega)
  have hp : ((List.range n).map z).Perm ((List.range n').map z') := (List.perm_ext_iff_of_nodup (nd h) (nd h')).2 (fun y => by rw [mem, mem]; exact hm y)
  have he := List.Perm.eq_of_pairwise (le := fun a b : Int => a ≤ b) (fun a b _ _ h1 h2 => Int.le_antisymm h1 h2) ((pw h).imp Int.le_of_lt) ((pw h').imp Int.le_of_lt) hp
  have hl := hp.length_eq
  simp at hl
  refine ⟨hl, fun j hj => ?_⟩
  have h1 : ((List.range n).map z)[j]? = ((List.range n').map z')[j]? := by rw [he]
  rw [List.getElem?_map, List.getElem?_map, List.getElem?_range hj, List.getElem?_range (by omega)] at h1
  simpa using h1
end Go.Proofs.Ytmalcekbhnkfgaa
