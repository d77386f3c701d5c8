/- The plain order of timers. Conditions: as each theorem states them. -/
import Derived.Test.YtlmnnbmihimedaaB2
namespace Go.Proofs.Ytlmnnbmihimedaa
set_option linter.unusedVariables false
set_option linter.unusedSimpArgs false

theorem less_list : ∀ (x y : List UInt8), Op.bytesLess x y = decide (x < y)
  | [], [] => by simp [Op.bytesLess]
  | _ :: _, [] => by simp [Op.bytesLess]
  | [], _ :: _ => by simp [Op.bytesLess]
  | a :: x, b :: y => by
    rw [Op.bytesLess, less_list x y]
    simp only [List.cons_lt_cons_iff]
    by_cases h1 : a < b <;> by_cases h2 : a = b <;> by_cases h3 : x < y <;> simp [h1, h2, h3]
theorem toL (a : ByteArray) : a.toList = a.data.toList := ByteArray.toList_eq a
theorem toL_inj {a b : ByteArray} (h : a.toList = b.toList) : a = b := by
  rw [toL, toL] at h
  cases a; cases b
  simp only [Array.toList_inj] at h
  rw [h]
theorem l_irrefl : ∀ (x : List UInt8), ¬ x < x
  | [], h => by cases h
  | a :: x, h => by
    rw [List.cons_lt_cons_iff] at h
    rcases h with h | ⟨_, h⟩
    · exact absurd h (UInt8.lt_irrefl a)
    · exact l_irrefl x h
theorem l_trans : ∀ {x y z : List UInt8}, x < y → y < z → x < z
  | [], _, [], _, h => by cases h
  | [], _, _ :: _, _, _ => by simp
  | _ :: _, [], _, h, _ => by cases h
  | _ :: _, _ :: _, [], _, h => by cases h
  | a :: x, b :: y, c :: z, h, k => by
    rw [List.cons_lt_cons_iff] at *
    rcases h with h | ⟨rfl, h⟩
    · rcases k with k | ⟨rfl, k⟩
      · exact .inl (UInt8.lt_trans h k)
      · exact .inl h
    · rcases k with k | ⟨rfl, k⟩
      · exact .inl k
      · exact .inr ⟨rfl, l_trans h k⟩
theorem l_tri : ∀ (x y : List UInt8), x < y ∨ x = y ∨ y < x
  | [], [] => .inr (.inl rfl)
  | [], _ :: _ => .inl (by simp)
  | _ :: _, [] => .inr (.inr (by simp))
  | a :: x, b :: y => by
    rw [List.cons_lt_cons_iff, List.cons_lt_cons_iff]
    by_cases h1 : a < b
    · exact .inl (.inl h1)
    · by_cases h2 : b < a
      · exact .inr (.inr (.inl h2))
      · have hab : a = b := by
          rw [UInt8.lt_iff_toNat_lt] at h1 h2
          exact UInt8.toNat_inj.1 (by omega)
        subst hab
        rcases l_tri x y with h | h | h
        · exact .inl (.inr ⟨rfl, h⟩)
        · exact .inr (.inl (by rw [h]))
        · exact .inr (.inr (.inr ⟨rfl, h⟩))
theorem cmpS_eq (a b : ByteArray) : cmpS a b = if a.toList < b.toList then -1 else if a.toList = b.toList then 0 else 1 := by
  unfold cmpS lessS
  rw [less_list]
  simp only [decide_eq_true_eq, beq_iff_eq]
/-- Three values hold of an order: less, level, greater. -/
theorem cmpS_cases (a b : ByteArray) : (cmpS a b = -1 ∧ a.toList < b.toList ∧ cmpS b a = 1) ∨ (cmpS a b = 0 ∧ a = b ∧ cmpS b a = 0) ∨ (cmpS a b = 1 ∧ b.toList < a.toList ∧ cmpS b a = -1) := by
  rw [cmpS_eq, cmpS_eq]
  rcases l_tri a.toList b.toList with h | h | h
  · have h1 : ¬ b.toList < a.toList := fun k => l_irrefl _ (l_trans h k)
    have h2 : ¬ b.toList = a.toList := fun k => by rw [k] at h; exact l_irrefl _ h
    left
    simp [h, h1, h2]
  · have := toL_inj h
    subst this
    right; left
    simp [l_irrefl]
  · have h1 : ¬ a.toList < b.toList := fun k => l_irrefl _ (l_trans h k)
    have h2 : ¬ a.toList = b.toList := fun k => by rw [k] at h; exact l_irrefl _ h
    right; right
    simp [h, h1, h2]
theorem cmpI_cases (a b : Int) : (cmpI a b = -1 ∧ a < b ∧ cmpI b a = 1) ∨ (cmpI a b = 0 ∧ a = b ∧ cmpI b a = 0) ∨ (cmpI a b = 1 ∧ b < a ∧ cmpI b a = -1) := by
  unfold cmpI
  rcases Int.lt_trichotomy a b with h | h | h
  · left
    have h1 : ¬ b < a := by omega
    simp [h, h1]
  · right; left
    subst h
    simp
  · right; right
    have h1 : ¬ a < b := by omega
    simp [h, h1]
/-- a is ahead of b. -/
def ltT (a b : Tm) : Prop := a.t < b.t ∨ (a.t = b.t ∧ (a.k.toList < b.k.toList ∨ (a.k = b.k ∧ a.s.toList < b.s.toList)))
theorem cmpT_cases (a b : Tm) : (cmpT a b = -1 ∧ ltT a b ∧ cmpT b a = 1) ∨ (cmpT a b = 0 ∧ a = b ∧ cmpT b a = 0) ∨ (cmpT a b = 1 ∧ ltT b a ∧ cmpT b a = -1) := by
  obtain ⟨t, k, s⟩ := a
  obtain ⟨t', k', s'⟩ := b
  unfold cmpT ltT
  dsimp only
  rcases cmpI_cases t t' with ⟨h1, h2, h3⟩ | ⟨h1, h2, h3⟩ | ⟨h1, h2, h3⟩
  · left
    rw [h1, h3]
    simp [orI, h2]
  · subst h2
    rcases cmpS_cases k k' with ⟨k1, k2, k3⟩ | ⟨k1, k2, k3⟩ | ⟨k1, k2, k3⟩
    · left
      rw [h1, k1, k3]
      simp [orI, k2]
    · subst k2
      rcases cmpS_cases s s' with ⟨s1, s2, s3⟩ | ⟨s1, s2, s3⟩ | ⟨s1, s2, s3⟩
      · left
        rw [h1, k1, s1, s3]
        simp [orI, s2]
      · subst s2
        right; left
        rw [h1, k1, s1]
        simp [orI]
      · right; right
        rw [h1, k1, s1, s3]
        simp [orI, s2]
    · right; right
      rw [h1, k1, k3]
      simp [orI, k2]
  · right; right
    rw [h1, h3]
    simp [orI, h2]
theorem ltT_trans {a b c : Tm} (h : ltT a b) (k : ltT b c) : ltT a c := by
  unfold ltT at *
  rcases h with h | ⟨h0, h⟩
  · rcases k with k | ⟨k0, k⟩
    · exact .inl (by omega)
    · exact .inl (by omega)
  · rcases k with k | ⟨k0, k⟩
    · exact .inl (by omega)
    · refine .inr ⟨by omega, ?_⟩
      rcases h with h | ⟨h1, h⟩
      · rcases k with k | ⟨k1, k⟩
        · exact .inl (l_trans h k)
        · exact .inl (k1 ▸ h)
      · rcases k with k | ⟨k1, k⟩
        · exact .inl (h1 ▸ k)
        · exact .inr ⟨h1.trans k1, l_trans h k⟩
theorem ltT_irrefl (a : Tm) : ¬ ltT a a := by
  unfold ltT
  rintro (h | ⟨_, h | ⟨_, h⟩⟩)
  · omega
  · exact l_irrefl _ h
  · exact l_irrefl _ h
theorem cmpT_lt {a b : Tm} : cmpT a b < 0 ↔ ltT a b := by
  rcases cmpT_cases a b with ⟨h, k, _⟩ | ⟨h, k, _⟩ | ⟨h, k, _⟩
  · simp [h, k]
  · subst k
    simp [h, ltT_irrefl]
  · rw [h]
    constructor
    · intro h; omega
    · intro k'; exact absurd (ltT_trans k k') (ltT_irrefl _)
theorem cmpT_neg (a b : Tm) : cmpT b a = - cmpT a b := by
  rcases cmpT_cases a b with ⟨h, _, k⟩ | ⟨h, _, k⟩ | ⟨h, _, k⟩ <;> omega
theorem cmpT_zero {a b : Tm} : cmpT a b = 0 ↔ a = b := by
  rcases cmpT_cases a b with ⟨h, k, _⟩ | ⟨h, k, _⟩ | ⟨h, k, _⟩
  · rw [h]
    constructor
    · intro h; omega
    · rintro rfl; exact absurd k (ltT_irrefl _)
  · exact ⟨fun _ => k, fun _ => h⟩
  · rw [h]
    constructor
    · intro h; omega
    · rintro rfl; exact absurd k (ltT_irrefl _)
theorem cmpT_bound (a b : Tm) : -1 ≤ cmpT a b ∧ cmpT a b ≤ 1 := by
  rcases cmpT_cases a b with ⟨h, _, _⟩ | ⟨h, _, _⟩ | ⟨h, _, _⟩ <;> omega
/-- a is not behind b. -/
def leT (a b : Tm) : Prop := ltT a b ∨ a = b
theorem leT_iff {a b : Tm} : leT a b ↔ ¬ cmpT b a < 0 := by
  rw [cmpT_lt]
  rcases cmpT_cases a b with ⟨_, k, _⟩ | ⟨_, k, _⟩ | ⟨_, k, _⟩
  · constructor
    · intro _ h; exact ltT_irrefl _ (ltT_trans h k)
    · intro _; exact .inl k
  · subst k
    constructor
    · intro _; exact ltT_irrefl _
    · intro _; exact .inr rfl
  · constructor
    · rintro (h | rfl)
      · exact absurd (ltT_trans h k) (ltT_irrefl _)
      · exact absurd k (ltT_irrefl _)
    · intro h; exact absurd k h
theorem leT_refl (a : Tm) : leT a a := .inr rfl
theorem leT_trans {a b c : Tm} (h : leT a b) (k : leT b c) : leT a c := by
  rcases h with h | rfl
  · rcases k with k | rfl
    · exact .inl (ltT_trans h k)
    · exact .inl h
  · exact k
theorem leT_total (a b : Tm) : leT a b ∨ leT b a := by
  rcases cmpT_cases a b with ⟨_, k, _⟩ | ⟨_, k, _⟩ | ⟨_, k, _⟩
  · exact .inl (.inl k)
  · exact .inl (.inr k)
  · exact .inr (.inl k)
theorem leT_antisymm {a b : Tm} (h : leT a b) (k : leT b a) : a = b := by
  rcases h with h | rfl
  · rcases k with k | rfl
    · exact absurd (ltT_trans h k) (ltT_irrefl _)
    · rfl
  · rfl
end Go.Proofs.Ytlmnnbmihimedaa
