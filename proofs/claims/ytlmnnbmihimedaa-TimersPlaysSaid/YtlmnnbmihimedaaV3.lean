/- The reference's calls as laws of lists in order. Conditions: as each theorem states them. -/
import Derived.Test.YtlmnnbmihimedaaV2
namespace Go.Proofs.Ytlmnnbmihimedaa
open Go.RowKit Go.Maps
set_option linter.unusedVariables false
set_option linter.unusedSimpArgs false

theorem pw_get {l : List Tm} (h : l.Pairwise ltT) {i j : Nat} (hij : i < j) (hj : j < l.length) : ltT (l.getD i zeroT) (l.getD j zeroT) := by
  rw [List.getD_eq_getElem?_getD, List.getD_eq_getElem?_getD, List.getElem?_eq_getElem (by omega : i < l.length), List.getElem?_eq_getElem hj]
  exact List.pairwise_iff_getElem.1 h i j (by omega) hj hij
theorem mem_getD {l : List Tm} {x : Tm} (h : x ∈ l) : ∃ i, i < l.length ∧ l.getD i zeroT = x := by
  obtain ⟨i, hi, e⟩ := List.mem_iff_getElem.1 h
  exact ⟨i, hi, by rw [List.getD_eq_getElem?_getD, List.getElem?_eq_getElem hi]; exact e⟩
theorem leT_of {a b : Tm} (h : ¬ ltT a b) : leT b a := by
  rcases leT_total a b with h1 | h1
  · rcases h1 with h1 | rfl
    · exact absurd h1 h
    · exact leT_refl _
  · exact h1
theorem place_mem {l : List Tm} {x : Tm} {k : Nat} (hs : l.Pairwise ltT) (hp : IsPlace l x k) (h : x ∈ l) : k < l.length ∧ l.getD k zeroT = x := by
  obtain ⟨i, hi, e⟩ := mem_getD h
  obtain ⟨p1, p2, p3⟩ := hp
  have hik : ¬ i < k := fun h => by have := p2 i h; rw [e] at this; exact ltT_irrefl _ this
  have hkl : k < l.length := by omega
  refine ⟨hkl, ?_⟩
  by_cases hki : k = i
  · rw [hki]; exact e
  · have := pw_get hs (show k < i by omega) hi
    rw [e] at this
    exact absurd this (p3 hkl)
theorem mem_take_lt {l : List Tm} {x : Tm} {k : Nat} (hp : IsPlace l x k) {y : Tm} (h : y ∈ l.take k) : ltT y x := by
  obtain ⟨i, hi, e⟩ := List.mem_take_iff_getElem.1 h
  have := hp.2.1 i (by omega)
  rw [List.getD_eq_getElem?_getD, List.getElem?_eq_getElem (by omega)] at this
  simp only [Option.getD_some] at this
  rwa [e] at this
theorem put_pw {l : List Tm} {x : Tm} {k : Nat} (hs : l.Pairwise ltT) (hp : IsPlace l x k) (hn : ¬ (k < l.length ∧ l.getD k zeroT = x)) : (l.take k ++ x :: l.drop k).Pairwise ltT := by
  have hsplit := hs
  rw [← List.take_append_drop k l, List.pairwise_append] at hsplit
  obtain ⟨s1, s2, s3⟩ := hsplit
  have hx : ∀ y ∈ l.drop k, ltT x y := by
    intro y hy
    obtain ⟨i, hi, e⟩ := List.mem_iff_getElem.1 hy
    rw [List.length_drop] at hi
    rw [List.getElem_drop] at e
    have hkl : k < l.length := by omega
    have h1 : ltT x (l.getD k zeroT) := by
      rcases leT_of (hp.2.2 hkl) with h | h
      · exact h
      · exact absurd ⟨hkl, h.symm⟩ hn
    have ey : l.getD (k + i) zeroT = y := by rw [List.getD_eq_getElem?_getD, List.getElem?_eq_getElem (by omega)]; exact e
    by_cases hi0 : i = 0
    · subst hi0
      rw [← ey]
      exact h1
    · have := pw_get hs (show k < k + i by omega) (by omega)
      rw [ey] at this
      exact ltT_trans h1 this
  rw [List.pairwise_append, List.pairwise_cons]
  refine ⟨s1, ⟨hx, s2⟩, ?_⟩
  intro a ha b hb
  rcases List.mem_cons.1 hb with rfl | hb
  · exact mem_take_lt hp ha
  · exact s3 a ha b hb
theorem put_perm (l : List Tm) (x : Tm) (k : Nat) : (x :: l).Perm (l.take k ++ x :: l.drop k) := by
  have := (List.perm_middle (a := x) (l₁ := l.take k) (l₂ := l.drop k)).symm
  rwa [List.take_append_drop] at this
theorem drop_pw {l : List Tm} (k : Nat) (hs : l.Pairwise ltT) : (l.take k ++ l.drop (k + 1)).Pairwise ltT := by
  have : (l.take k ++ l.drop (k + 1)).Sublist l := by
    conv => rhs; rw [← List.take_append_drop k l]
    exact List.Sublist.append (List.Sublist.refl _) (by rw [← List.drop_drop]; exact List.drop_sublist _ _)
  exact hs.sublist this
theorem drop_perm {l : List Tm} {x : Tm} {k : Nat} (hk : k < l.length) (hx : l.getD k zeroT = x) : l.Perm (x :: (l.take k ++ l.drop (k + 1))) := by
  rw [List.getD_eq_getElem?_getD, List.getElem?_eq_getElem hk] at hx
  simp only [Option.getD_some] at hx
  conv => lhs; rw [← List.take_append_drop k l, List.drop_eq_getElem_cons hk, hx]
  exact List.perm_middle
/-- What is due, and what stays, of a list in order. -/
theorem due_split {l out rest : List Tm} {u : Int} {k : Nat} (hs : l.Pairwise ltT) (hd : IsDue l u k) (hp : (out ++ rest).Perm l) (ho : ∀ x ∈ out, x.t ≤ u) (hr : ∀ x ∈ rest, u < x.t) (hos : out.Pairwise ltT) :
    out = l.take k ∧ rest.Perm (l.drop k) := by
  obtain ⟨d1, d2, d3⟩ := hd
  have hlow : ∀ x ∈ l.take k, x.t ≤ u := by
    intro x hx
    obtain ⟨i, hi, e⟩ := List.mem_take_iff_getElem.1 hx
    have := d2 i (by omega)
    rw [List.getD_eq_getElem?_getD, List.getElem?_eq_getElem (by omega)] at this
    simp only [Option.getD_some] at this
    rwa [e] at this
  have hhigh : ∀ x ∈ l.drop k, u < x.t := by
    intro x hx
    obtain ⟨i, hi, e⟩ := List.mem_iff_getElem.1 hx
    rw [List.length_drop] at hi
    rw [List.getElem_drop] at e
    have h1 := d3 (by omega)
    have ex : l.getD (k + i) zeroT = x := by rw [List.getD_eq_getElem?_getD, List.getElem?_eq_getElem (by omega)]; exact e
    by_cases hi0 : i = 0
    · subst hi0
      rw [← ex]
      exact h1
    · have h2 := pw_get hs (show k < k + i by omega) (by omega)
      rw [ex] at h2
      rcases h2 with h2 | ⟨h2, _⟩
      · exact Int.lt_trans h1 h2
      · rw [← h2]; exact h1
  have hf : ∀ (a b : List Tm), (∀ x ∈ a, x.t ≤ u) → (∀ x ∈ b, u < x.t) → (a ++ b).filter (fun x => decide (x.t ≤ u)) = a ∧ (a ++ b).filter (fun x => !decide (x.t ≤ u)) = b := by
    intro a b ha hb
    rw [List.filter_append, List.filter_append]
    have e1 : a.filter (fun x => decide (x.t ≤ u)) = a := List.filter_eq_self.2 (fun x hx => by simpa using ha x hx)
    have e2 : b.filter (fun x => decide (x.t ≤ u)) = [] := List.filter_eq_nil_iff.2 (fun x hx => by have := hb x hx; simp; omega)
    have e3 : a.filter (fun x => !decide (x.t ≤ u)) = [] := List.filter_eq_nil_iff.2 (fun x hx => by have := ha x hx; simp; omega)
    have e4 : b.filter (fun x => !decide (x.t ≤ u)) = b := List.filter_eq_self.2 (fun x hx => by have := hb x hx; simp; omega)
    rw [e1, e2, e3, e4]
    simp
  have hp' := hp
  rw [← List.take_append_drop k l] at hp'
  have h1 := hp'.filter (fun x => decide (x.t ≤ u))
  have h2 := hp'.filter (fun x => !decide (x.t ≤ u))
  rw [(hf _ _ ho hr).1, (hf _ _ hlow hhigh).1] at h1
  rw [(hf _ _ ho hr).2, (hf _ _ hlow hhigh).2] at h2
  exact ⟨sorted_eq h1 hos (hs.sublist (List.take_sublist _ _)), h2⟩
theorem due_pw {l : List Tm} (k : Nat) (hs : l.Pairwise ltT) : (l.drop k).Pairwise ltT := hs.sublist (List.drop_sublist _ _)
theorem next_first {x y : Tm} {l : List Tm} (hs : (y :: l).Pairwise ltT) (hx : x ∈ y :: l) (hm : ∀ z ∈ y :: l, leT x z) : x = y := by
  have h1 := hm y (by simp)
  rcases List.mem_cons.1 hx with rfl | hx
  · rfl
  · have h2 := (List.pairwise_cons.1 hs).1 x hx
    exact leT_antisymm h1 (.inl h2)
/-- A slice that reads as a list of timers. -/
def LS (w : World) (v : Value) (l : List Tm) : Prop := ∃ A c, v = .slice A l.length c ∧ l.length ≤ c ∧ RdT w w.heap.size A l ∧ (A = none → c = 0) ∧ ∀ a, A = some a → a.block < w.heap.size
theorem LS.kw {w w' : World} {S : Nat → Prop} {v : Value} {l : List Tm} (h : LS w v l) (k : Kw S w w') (hS : ∀ b, v.ownBlock = some b → ¬ S b) : LS w' v l := by
  obtain ⟨A, c, rfl, h1, h2, h3, h4⟩ := h
  have hs := k.size
  refine ⟨A, c, rfl, h1, fun h0 => ?_, h3, fun a ha => by have := h4 a ha; omega⟩
  obtain ⟨b, off, rfl, hb, _, hc⟩ := h2 h0
  have hn : ¬ S b := hS b rfl
  refine ⟨b, off, rfl, by omega, Nat.le_refl _, fun i hi => ?_⟩
  obtain ⟨u0, u1, u2⟩ := hc i hi
  exact ⟨(k.cell hb hn).trans u0, (k.cell hb hn).trans u1, (k.cell hb hn).trans u2⟩
theorem LS.below {w w' : World} {v : Value} {l : List Tm} (h : LS w v l) (k : Below w.heap.size w w') : LS w' v l := h.kw (S := fun _ => False) (Kw.ofBelow k) (fun _ _ h => h)
theorem LS.nil (w : World) : LS w (.slice none 0 0) [] := ⟨none, 0, rfl, Nat.le_refl _, RdT.nil, fun _ => rfl, fun a h => by cases h⟩
theorem LS.own {w : World} {B : Nat} {v : Value} {l : List Tm} (h : w.ownsRow B 23 3 v l.length (tcells l)) : LS w v l := by
  have hlt := own_lt h
  obtain ⟨A, c, rfl, h1, h2, h3⟩ := own_rd h
  refine ⟨A, c, rfl, h1, h2, fun hA => ?_, fun a ha => hlt _ (h3 a ha)⟩
  subst hA
  rcases h.2 with ⟨e, h0⟩ | ⟨g, c', cur, e, _⟩
  · simp at e; exact e.2
  · simp at e
theorem LS.lt {w : World} {v : Value} {l : List Tm} (h : LS w v l) : ∀ b, v.ownBlock = some b → b < w.heap.size := by
  obtain ⟨A, c, rfl, h1, h2, h3, h4⟩ := h
  intro b hb
  cases A with
  | none => simp [Value.ownBlock] at hb
  | some a => simp only [Value.ownBlock, Option.some.injEq] at hb; subst hb; exact h4 a rfl
set_option maxHeartbeats 1000000 in
theorem put_sum (v : Value) (l : List Tm) (x : Tm) (w : World) (h : LS w v l) (hs : l.Pairwise ltT) (hn : l.length ≤ 1024) :
    Calls Try.prog 23 #[v, tmV x] w fun e w' => ∃ vo l', e = .returned (.tuple #[vo, .int .i64 (putR l x)]) ∧ LS w' vo l' ∧ l'.Pairwise ltT ∧ (putT l x).Perm l' ∧ (∀ b, vo.ownBlock = some b → v.ownBlock = some b ∨ w.heap.size ≤ b) ∧ Below w.heap.size w w' := by
  have h0 := h
  obtain ⟨A, c, rfl, h1, h2, h3, h4⟩ := h
  by_cases hx : chkT x = 0
  · refine (refput_main A l.length c l x w hx rfl (by omega) h1 h2 (fun h => ⟨h3 h, by have := h3 h; omega⟩)).mono ?_
    rintro e w' ⟨hb, k, hp, ⟨hk, rfl⟩ | ⟨hk, hlong, rfl⟩ | ⟨hk, hlong, vo, rfl, hown⟩⟩
    · have hm : x ∈ l := hk.2 ▸ getD_memT hk.1
      have hr : putR l x = 5 := by unfold putR; rw [if_neg (by simp [hx]), if_pos hm]
      have ht : putT l x = l := by unfold putT; rw [hr]; simp
      rw [hr, ht]
      exact ⟨_, l, rfl, h0.below hb, hs, List.Perm.refl _, fun b h => .inl h, hb⟩
    · have hm : x ∉ l := fun h => hk (place_mem hs hp h)
      have hr : putR l x = 3 := by unfold putR; rw [if_neg (by simp [hx]), if_neg hm, if_pos hlong]
      have ht : putT l x = l := by unfold putT; rw [hr]; simp
      rw [hr, ht]
      exact ⟨_, l, rfl, h0.below hb, hs, List.Perm.refl _, fun b h => .inl h, hb⟩
    · have hm : x ∉ l := fun h => hk (place_mem hs hp h)
      have hr : putR l x = 0 := by unfold putR; rw [if_neg (by simp [hx]), if_neg hm, if_neg (by omega)]
      have ht : putT l x = x :: l := by unfold putT; rw [hr]; simp
      rw [hr, ht]
      have hpp := put_perm l x k
      have hlen : (l.take k ++ x :: l.drop k).length = l.length + 1 := by have := hpp.length_eq; simp at this ⊢; omega
      rw [← hlen] at hown
      exact ⟨vo, _, rfl, LS.own hown, put_pw hs hp hk, hpp, fun b h => .inr (own_ge hown b h), hb⟩
  · refine (refput_arg A l.length c x w hx).mono ?_
    rintro e w' ⟨rfl, hb⟩
    have hr : putR l x = 2 := by unfold putR; rw [if_pos hx]
    have ht : putT l x = l := by unfold putT; rw [hr]; simp
    rw [hr, ht]
    exact ⟨_, l, rfl, h0.below hb, hs, List.Perm.refl _, fun b h => .inl h, hb⟩
set_option maxHeartbeats 1000000 in
theorem drop_sum (v : Value) (l : List Tm) (x : Tm) (w : World) (h : LS w v l) (hs : l.Pairwise ltT) (hn : l.length ≤ 1024) :
    Calls Try.prog 25 #[v, tmV x] w fun e w' => ∃ vo l', e = .returned (.tuple #[vo, .int .i64 (dropR l x)]) ∧ LS w' vo l' ∧ l'.Pairwise ltT ∧ ((dropR l x = 0 ∧ l.Perm (x :: l')) ∨ (dropR l x ≠ 0 ∧ l' = l)) ∧ (∀ b, vo.ownBlock = some b → v.ownBlock = some b ∨ w.heap.size ≤ b) ∧ Below w.heap.size w w' := by
  have h0 := h
  obtain ⟨A, c, rfl, h1, h2, h3, h4⟩ := h
  by_cases hx : chkT x = 0
  · refine (refdrop_main A l.length c l x w hx rfl (by omega) h1 h2 (fun h => ⟨h3 h, by have := h3 h; omega⟩)).mono ?_
    rintro e w' ⟨hb, k, hp, ⟨hk, rfl⟩ | ⟨hk, vo, rfl, hown⟩⟩
    · have hm : x ∉ l := fun h => hk (place_mem hs hp h)
      have hr : dropR l x = 4 := by unfold dropR; rw [if_neg (by simp [hx]), if_neg hm]
      rw [hr]
      exact ⟨_, l, rfl, h0.below hb, hs, .inr ⟨by omega, rfl⟩, fun b h => .inl h, hb⟩
    · have hm : x ∈ l := hk.2 ▸ getD_memT hk.1
      have hr : dropR l x = 0 := by unfold dropR; rw [if_neg (by simp [hx]), if_pos hm]
      rw [hr]
      have hpp := drop_perm hk.1 hk.2
      have hlen : (l.take k ++ l.drop (k + 1)).length = l.length - 1 := by have := hpp.length_eq; simp at this ⊢; omega
      rw [← hlen] at hown
      exact ⟨vo, _, rfl, LS.own hown, drop_pw k hs, .inl ⟨rfl, hpp⟩, fun b h => .inr (own_ge hown b h), hb⟩
  · refine (refdrop_arg A l.length c x w hx).mono ?_
    rintro e w' ⟨rfl, hb⟩
    have hr : dropR l x = 2 := by unfold dropR; rw [if_pos hx]
    rw [hr]
    exact ⟨_, l, rfl, h0.below hb, hs, .inr ⟨by omega, rfl⟩, fun b h => .inl h, hb⟩
end Go.Proofs.Ytlmnnbmihimedaa
