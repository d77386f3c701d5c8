/- The plain heap: what is due. Conditions: as each theorem states them. -/
import Derived.Test.YtlmnnbmihimedaaD2
import Derived.Test.YtlmnnbmihimedaaC6
namespace Go.Proofs.Ytlmnnbmihimedaa
set_option linter.unusedVariables false
set_option linter.unusedSimpArgs false

/-- What holds of a queue's heap. -/
structure QInv (tm : Nat → Tm) (bs : List Nat) (pl : Nat → Int) : Prop where
  ord : HeapOrd tm bs
  placed : Placed bs pl
  nd : bs.Nodup
  tnd : (bs.map tm).Nodup
  ok : ∀ b ∈ bs, chkT (tm b) = 0
theorem nodup_of_map {tm : Nat → Tm} {bs : List Nat} (h : (bs.map tm).Nodup) : bs.Nodup := by
  refine List.Pairwise.of_map tm ?_ h
  intro a b hab e
  exact hab (by rw [e])
theorem QInv.cut {tm : Nat → Tm} {bs : List Nat} {pl : Nat → Int} (h : QInv tm bs pl) (k : Nat) (hk : k < bs.length) : QInv tm (cutL tm bs k) (cutP tm bs k pl) := by
  have hp := cut_perm tm bs k hk
  have h1 := (hp.map tm).nodup_iff.2 h.tnd
  rw [List.map_cons, List.nodup_cons] at h1
  exact ⟨cut_ord tm bs k hk h.ord, cut_placed tm bs k pl hk h.placed h.nd, nodup_of_map h1.2, h1.2, fun b hb => h.ok b (hp.mem_iff.1 (List.mem_cons_of_mem _ hb))⟩
theorem leT_t {a b : Tm} (h : leT a b) : a.t ≤ b.t := by
  rcases h with h | rfl
  · rcases h with h | ⟨h, _⟩ <;> omega
  · omega
theorem lt_of_le_ne {a b : Tm} (h : leT a b) (hne : a ≠ b) : ltT a b := h.resolve_right hne
theorem dueR_spec (tm : Nat → Tm) (upto : Int) : ∀ (f : Nat) (bs : List Nat) (pl : Nat → Int), bs.length ≤ f → QInv tm bs pl →
    ((dueR tm upto f bs pl).1 ++ (dueR tm upto f bs pl).2.1).Perm bs ∧ (∀ b ∈ (dueR tm upto f bs pl).1, (tm b).t ≤ upto) ∧ (∀ b ∈ (dueR tm upto f bs pl).2.1, upto < (tm b).t) ∧ ((dueR tm upto f bs pl).1.map tm).Pairwise ltT ∧ QInv tm (dueR tm upto f bs pl).2.1 (dueR tm upto f bs pl).2.2
  | 0, bs, pl, hf, h => by
    have : bs = [] := List.length_eq_zero_iff.1 (by omega)
    subst this
    exact ⟨List.Perm.refl _, by simp [dueR], by simp [dueR], by simp [dueR], h⟩
  | f + 1, bs, pl, hf, h => by
    simp only [dueR]
    split
    · rename_i hh
      have hp := cut_perm tm bs 0 hh.1
      have hl := cut_length tm bs 0 hh.1
      obtain ⟨h1, h2, h3, h4, h5⟩ := dueR_spec tm upto f (cutL tm bs 0) (cutP tm bs 0 pl) (by omega) (h.cut 0 hh.1)
      refine ⟨(h1.cons _).trans hp, ?_, h3, ?_, h5⟩
      · intro b hb
        rcases List.mem_cons.1 hb with rfl | hb
        · exact hh.2
        · exact h2 b hb
      · rw [List.map_cons, List.pairwise_cons]
        refine ⟨fun y hy => ?_, h4⟩
        obtain ⟨b, hb, rfl⟩ := List.mem_map.1 hy
        have hbc : b ∈ cutL tm bs 0 := h1.mem_iff.1 (List.mem_append_left _ hb)
        have hbb : b ∈ bs := hp.mem_iff.1 (List.mem_cons_of_mem _ hbc)
        obtain ⟨i, hi, hib⟩ := List.mem_iff_getElem.1 hbb
        have hle := top_least tm bs h.ord i i (Nat.le_refl _) hi
        rw [getD_get hi, hib] at hle
        refine lt_of_le_ne hle (fun e => ?_)
        have h6 := (hp.map tm).nodup_iff.2 h.tnd
        rw [List.map_cons, List.nodup_cons] at h6
        exact h6.1 (e ▸ List.mem_map_of_mem hbc)
    · rename_i hh
      refine ⟨List.Perm.refl _, by simp, ?_, by simp, h⟩
      intro b hb
      obtain ⟨i, hi, hib⟩ := List.mem_iff_getElem.1 (show b ∈ bs from hb)
      have hle := leT_t (top_least tm bs h.ord i i (Nat.le_refl _) hi)
      rw [getD_get hi, hib] at hle
      have : ¬ (tm (bs.getD 0 0)).t ≤ upto := fun e => hh ⟨by omega, e⟩
      omega
theorem ord_congr {tm tm' : Nat → Tm} {bs : List Nat} (h : HeapOrd tm bs) (he : ∀ b ∈ bs, tm' b = tm b) : HeapOrd tm' bs := by
  intro i hi hil
  rw [he _ (getD_mem (by omega)), he _ (getD_mem hil)]
  exact h i hi hil
theorem QInv.add {tm : Nat → Tm} {bs : List Nat} {pl : Nat → Int} (h : QInv tm bs pl) (b : Nat) (x : Tm) (hb : b ∉ bs) (hx : chkT x = 0) (hn : ∀ c ∈ bs, tm c ≠ x) (y : Int) :
    QInv (tmSet tm b x) (addL (tmSet tm b x) b bs) (addP (tmSet tm b x) b bs (plSet pl b y)) ∧ ((addL (tmSet tm b x) b bs).map (tmSet tm b x)).Perm (x :: bs.map tm) := by
  have hts : ∀ c ∈ bs, tmSet tm b x c = tm c := fun c hc => by
    have hne : c ≠ b := fun e => hb (e ▸ hc)
    unfold tmSet
    rw [if_neg hne]
  have htb : tmSet tm b x b = x := by unfold tmSet; rw [if_pos rfl]
  have hmap : bs.map (tmSet tm b x) = bs.map tm := List.map_congr_left hts
  have hp := add_perm (tmSet tm b x) b bs
  have hpm : ((addL (tmSet tm b x) b bs).map (tmSet tm b x)).Perm (x :: bs.map tm) := by
    refine (hp.map _).trans ?_
    rw [List.map_append, hmap]
    simp only [List.map_cons, List.map_nil, htb]
    exact List.perm_append_comm (l₁ := bs.map tm) (l₂ := [x])
  have htn : ((addL (tmSet tm b x) b bs).map (tmSet tm b x)).Nodup := by
    refine hpm.nodup_iff.2 (List.nodup_cons.2 ⟨fun hm => ?_, h.tnd⟩)
    obtain ⟨c, hc, e⟩ := List.mem_map.1 hm
    exact hn c hc e
  refine ⟨⟨add_ord _ _ _ (ord_congr h.ord hts), add_placed _ _ _ _ ?_ h.nd hb, nodup_of_map htn, htn, ?_⟩, hpm⟩
  · intro i hi
    have hne : bs.getD i 0 ≠ b := fun e => hb (e ▸ getD_mem hi)
    unfold plSet
    rw [if_neg hne]
    exact h.placed i hi
  · intro c hc
    rcases List.mem_append.1 (hp.mem_iff.1 hc) with h1 | h1
    · rw [hts c h1]
      exact h.ok c h1
    · obtain rfl : c = b := by simpa using h1
      rw [htb]
      exact hx
end Go.Proofs.Ytlmnnbmihimedaa
