/- The walk of the law TimersOrder. Conditions: as the theorem states them. -/
import Derived.Test.YtlmnnbmihimedaaF2
import Derived.Test.YtlmnnbmihimedaaF3
namespace Go.Proofs.Ytlmnnbmihimedaa
open Go.RowKit Go.Maps
set_option linter.unusedVariables false
set_option linter.unusedSimpArgs false

theorem tm_apart {t1 : Int} {k1 s1 : ByteArray} {t2 : Int} {k2 s2 : ByteArray} (h : (⟨t1, k1, s1⟩ : Tm) ≠ ⟨t2, k2, s2⟩) : (¬ t1 = t2) ∨ (t2 = t1 ∧ (k1.toList == k2.toList) = false) ∨ (t2 = t1 ∧ k2 = k1 ∧ (s1.toList == s2.toList) = false) := by
  by_cases ht : t1 = t2
  · subst ht
    by_cases hk : k1 = k2
    · subst hk
      have hs : ¬ s1 = s2 := fun e => h (by rw [e])
      exact .inr (.inr ⟨rfl, rfl, beq_false_of_ne (fun e => hs (toL_inj e))⟩)
    · exact .inr (.inl ⟨rfl, beq_false_of_ne (fun e => hk (toL_inj e))⟩)
  · exact .inl ht
theorem order_walk (t1 : Int) (k1 s1 : ByteArray) (t2 : Int) (k2 s2 : ByteArray) (t3 : Int) (k3 s3 : ByteArray) (W : World) :
    Calls Try.prog 4 #[.agg #[.int .i64 t1, .string k1, .string s1], .agg #[.int .i64 t2, .string k2, .string s2], .agg #[.int .i64 t3, .string k3, .string s3]] W fun e w' => e = .returned (.bool true) ∧ Below W.heap.size W w' := by
  have key : ∀ a b : Tm, cmpT a b = -1 ∧ ltT a b ∨ cmpT a b = 0 ∧ a = b ∨ cmpT a b = 1 ∧ ltT b a := fun a b => by
    rcases cmpT_cases a b with ⟨h, k, _⟩ | ⟨h, k, _⟩ | ⟨h, k, _⟩
    · exact .inl ⟨h, k⟩
    · exact .inr (.inl ⟨h, k⟩)
    · exact .inr (.inr ⟨h, k⟩)
  have hap : ∀ {x : Int}, cmpT ⟨t1, k1, s1⟩ ⟨t2, k2, s2⟩ = x → x ≠ 0 → (⟨t1, k1, s1⟩ : Tm) ≠ ⟨t2, k2, s2⟩ := fun hx h0 e => h0 (by rw [← hx]; exact cmpT_zero.2 e)
  rcases key ⟨t1, k1, s1⟩ ⟨t2, k2, s2⟩ with ⟨hx, px⟩ | ⟨hx, px⟩ | ⟨hx, px⟩
  · rcases key ⟨t2, k2, s2⟩ ⟨t3, k3, s3⟩ with ⟨hy, py⟩ | ⟨hy, py⟩ | ⟨hy, py⟩
    · rcases key ⟨t1, k1, s1⟩ ⟨t3, k3, s3⟩ with ⟨hz, pz⟩ | ⟨hz, pz⟩ | ⟨hz, pz⟩
      · rcases tm_apart (hap hx (by decide)) with hne | ⟨rfl, hne⟩ | ⟨rfl, rfl, hne⟩
        · exact order_mmmt t1 k1 s1 t2 k2 s2 t3 k3 s3 W hne hx hy hz
        · exact order_mmmk _ k1 s1 k2 s2 t3 k3 s3 W hne hx hy hz
        · exact order_mmms _ _ s1 s2 t3 k3 s3 W hne hx hy hz
      · exfalso; have h := ltT_trans px py; rw [pz] at h; exact ltT_irrefl _ h
      · exfalso; exact ltT_irrefl _ (ltT_trans (ltT_trans px py) pz)
    · rcases key ⟨t1, k1, s1⟩ ⟨t3, k3, s3⟩ with ⟨hz, pz⟩ | ⟨hz, pz⟩ | ⟨hz, pz⟩
      · rcases tm_apart (hap hx (by decide)) with hne | ⟨rfl, hne⟩ | ⟨rfl, rfl, hne⟩
        · exact order_mzmt t1 k1 s1 t2 k2 s2 t3 k3 s3 W hne hx hy hz
        · exact order_mzmk _ k1 s1 k2 s2 t3 k3 s3 W hne hx hy hz
        · exact order_mzms _ _ s1 s2 t3 k3 s3 W hne hx hy hz
      · exfalso; rw [py] at hx; rw [hx] at hz; exact absurd hz (by decide)
      · exfalso; rw [py] at hx; rw [hx] at hz; exact absurd hz (by decide)
    · rcases key ⟨t1, k1, s1⟩ ⟨t3, k3, s3⟩ with ⟨hz, pz⟩ | ⟨hz, pz⟩ | ⟨hz, pz⟩
      · rcases tm_apart (hap hx (by decide)) with hne | ⟨rfl, hne⟩ | ⟨rfl, rfl, hne⟩
        · exact order_mpmt t1 k1 s1 t2 k2 s2 t3 k3 s3 W hne hx hy hz
        · exact order_mpmk _ k1 s1 k2 s2 t3 k3 s3 W hne hx hy hz
        · exact order_mpms _ _ s1 s2 t3 k3 s3 W hne hx hy hz
      · rcases tm_apart (hap hx (by decide)) with hne | ⟨rfl, hne⟩ | ⟨rfl, rfl, hne⟩
        · exact order_mpzt t1 k1 s1 t2 k2 s2 t3 k3 s3 W hne hx hy hz
        · exact order_mpzk _ k1 s1 k2 s2 t3 k3 s3 W hne hx hy hz
        · exact order_mpzs _ _ s1 s2 t3 k3 s3 W hne hx hy hz
      · rcases tm_apart (hap hx (by decide)) with hne | ⟨rfl, hne⟩ | ⟨rfl, rfl, hne⟩
        · exact order_mppt t1 k1 s1 t2 k2 s2 t3 k3 s3 W hne hx hy hz
        · exact order_mppk _ k1 s1 k2 s2 t3 k3 s3 W hne hx hy hz
        · exact order_mpps _ _ s1 s2 t3 k3 s3 W hne hx hy hz
  · rcases key ⟨t2, k2, s2⟩ ⟨t3, k3, s3⟩ with ⟨hy, py⟩ | ⟨hy, py⟩ | ⟨hy, py⟩
    · rcases key ⟨t1, k1, s1⟩ ⟨t3, k3, s3⟩ with ⟨hz, pz⟩ | ⟨hz, pz⟩ | ⟨hz, pz⟩
      · obtain ⟨rfl, rfl, rfl⟩ : t1 = t2 ∧ k1 = k2 ∧ s1 = s2 := by simpa using px
        exact order_zmmz t1 k1 s1 t3 k3 s3 W hx hy hz
      · exfalso; rw [px, hy] at hz; exact absurd hz (by decide)
      · exfalso; rw [px, hy] at hz; exact absurd hz (by decide)
    · rcases key ⟨t1, k1, s1⟩ ⟨t3, k3, s3⟩ with ⟨hz, pz⟩ | ⟨hz, pz⟩ | ⟨hz, pz⟩
      · exfalso; rw [px, hy] at hz; exact absurd hz (by decide)
      · obtain ⟨rfl, rfl, rfl⟩ : t1 = t2 ∧ k1 = k2 ∧ s1 = s2 := by simpa using px
        exact order_zzzz t1 k1 s1 t3 k3 s3 W hx hy hz
      · exfalso; rw [px, hy] at hz; exact absurd hz (by decide)
    · rcases key ⟨t1, k1, s1⟩ ⟨t3, k3, s3⟩ with ⟨hz, pz⟩ | ⟨hz, pz⟩ | ⟨hz, pz⟩
      · exfalso; rw [px, hy] at hz; exact absurd hz (by decide)
      · exfalso; rw [px, hy] at hz; exact absurd hz (by decide)
      · obtain ⟨rfl, rfl, rfl⟩ : t1 = t2 ∧ k1 = k2 ∧ s1 = s2 := by simpa using px
        exact order_zppz t1 k1 s1 t3 k3 s3 W hx hy hz
  · rcases key ⟨t2, k2, s2⟩ ⟨t3, k3, s3⟩ with ⟨hy, py⟩ | ⟨hy, py⟩ | ⟨hy, py⟩
    · rcases key ⟨t1, k1, s1⟩ ⟨t3, k3, s3⟩ with ⟨hz, pz⟩ | ⟨hz, pz⟩ | ⟨hz, pz⟩
      · rcases tm_apart (hap hx (by decide)) with hne | ⟨rfl, hne⟩ | ⟨rfl, rfl, hne⟩
        · exact order_pmmt t1 k1 s1 t2 k2 s2 t3 k3 s3 W hne hx hy hz
        · exact order_pmmk _ k1 s1 k2 s2 t3 k3 s3 W hne hx hy hz
        · exact order_pmms _ _ s1 s2 t3 k3 s3 W hne hx hy hz
      · rcases tm_apart (hap hx (by decide)) with hne | ⟨rfl, hne⟩ | ⟨rfl, rfl, hne⟩
        · exact order_pmzt t1 k1 s1 t2 k2 s2 t3 k3 s3 W hne hx hy hz
        · exact order_pmzk _ k1 s1 k2 s2 t3 k3 s3 W hne hx hy hz
        · exact order_pmzs _ _ s1 s2 t3 k3 s3 W hne hx hy hz
      · rcases tm_apart (hap hx (by decide)) with hne | ⟨rfl, hne⟩ | ⟨rfl, rfl, hne⟩
        · exact order_pmpt t1 k1 s1 t2 k2 s2 t3 k3 s3 W hne hx hy hz
        · exact order_pmpk _ k1 s1 k2 s2 t3 k3 s3 W hne hx hy hz
        · exact order_pmps _ _ s1 s2 t3 k3 s3 W hne hx hy hz
    · rcases key ⟨t1, k1, s1⟩ ⟨t3, k3, s3⟩ with ⟨hz, pz⟩ | ⟨hz, pz⟩ | ⟨hz, pz⟩
      · exfalso; rw [py] at hx; rw [hx] at hz; exact absurd hz (by decide)
      · exfalso; rw [py] at hx; rw [hx] at hz; exact absurd hz (by decide)
      · rcases tm_apart (hap hx (by decide)) with hne | ⟨rfl, hne⟩ | ⟨rfl, rfl, hne⟩
        · exact order_pzpt t1 k1 s1 t2 k2 s2 t3 k3 s3 W hne hx hy hz
        · exact order_pzpk _ k1 s1 k2 s2 t3 k3 s3 W hne hx hy hz
        · exact order_pzps _ _ s1 s2 t3 k3 s3 W hne hx hy hz
    · rcases key ⟨t1, k1, s1⟩ ⟨t3, k3, s3⟩ with ⟨hz, pz⟩ | ⟨hz, pz⟩ | ⟨hz, pz⟩
      · exfalso; exact ltT_irrefl _ (ltT_trans (ltT_trans py px) pz)
      · exfalso; have h := ltT_trans py px; rw [pz] at h; exact ltT_irrefl _ h
      · rcases tm_apart (hap hx (by decide)) with hne | ⟨rfl, hne⟩ | ⟨rfl, rfl, hne⟩
        · exact order_pppt t1 k1 s1 t2 k2 s2 t3 k3 s3 W hne hx hy hz
        · exact order_pppk _ k1 s1 k2 s2 t3 k3 s3 W hne hx hy hz
        · exact order_ppps _ _ s1 s2 t3 k3 s3 W hne hx hy hz
end Go.Proofs.Ytlmnnbmihimedaa
