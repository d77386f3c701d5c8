/- The queue as the timers that it holds: New, Put, Due, Next, Len. Conditions: as each theorem states them. -/
import Derived.Test.YtlmnnbmihimedaaD3
namespace Go.Proofs.Ytlmnnbmihimedaa
open Go.RowKit Go.Maps
set_option linter.unusedVariables false
set_option linter.unusedSimpArgs false

/-- Block q is a queue of the timers T, in blocks of F. -/
def QL (w : World) (B q m : Nat) (T : List Tm) (F : Nat → Prop) : Prop :=
  ∃ v bs tm pl, QAt w B q m v bs tm pl ∧ QInv tm bs pl ∧ (bs.map tm).Perm T ∧ bs.length ≤ 1024 ∧ ∀ b, QS q m v bs b → F b
theorem QL.perm {w : World} {B q m : Nat} {T T' : List Tm} {F : Nat → Prop} (h : QL w B q m T F) (hp : T.Perm T') : QL w B q m T' F := by
  obtain ⟨v, bs, tm, pl, h1, h2, h3, h4, h5⟩ := h
  exact ⟨v, bs, tm, pl, h1, h2, h3.trans hp, h4, h5⟩
theorem QL.length {w : World} {B q m : Nat} {T : List Tm} {F : Nat → Prop} (h : QL w B q m T F) : T.length ≤ 1024 := by
  obtain ⟨v, bs, tm, pl, h1, h2, h3, h4, h5⟩ := h
  have := h3.length_eq
  simp at this
  omega
theorem QL.nodup {w : World} {B q m : Nat} {T : List Tm} {F : Nat → Prop} (h : QL w B q m T F) : T.Nodup := by
  obtain ⟨v, bs, tm, pl, h1, h2, h3, h4, h5⟩ := h
  exact h3.nodup_iff.1 h2.tnd
theorem QL.ok {w : World} {B q m : Nat} {T : List Tm} {F : Nat → Prop} (h : QL w B q m T F) : ∀ x ∈ T, chkT x = 0 := by
  obtain ⟨v, bs, tm, pl, h1, h2, h3, h4, h5⟩ := h
  intro x hx
  obtain ⟨b, hb, rfl⟩ := List.mem_map.1 (h3.mem_iff.2 hx)
  exact h2.ok b hb
theorem QL.kw {w w' : World} {S : Nat → Prop} {B q m : Nat} {T : List Tm} {F : Nat → Prop} (h : QL w B q m T F) (k : Kw S w w') (hS : ∀ b, F b → b < w.heap.size → ¬ S b) : QL w' B q m T F := by
  obtain ⟨v, bs, tm, pl, h1, h2, h3, h4, h5⟩ := h
  exact ⟨v, bs, tm, pl, h1.kw k (fun b hb => hS b (h5 b hb) (h1.lt hb)), h2, h3, h4, h5⟩
theorem QL.below {w w' : World} {B q m : Nat} {T : List Tm} {F : Nat → Prop} (h : QL w B q m T F) (k : Below w.heap.size w w') : QL w' B q m T F :=
  h.kw (S := fun _ => False) (Kw.ofBelow k) (fun _ _ _ h => h)
theorem QL.mono {w : World} {B q m : Nat} {T : List Tm} {F G : Nat → Prop} (h : QL w B q m T F) (hFG : ∀ b, F b → G b) : QL w B q m T G := by
  obtain ⟨v, bs, tm, pl, h1, h2, h3, h4, h5⟩ := h
  exact ⟨v, bs, tm, pl, h1, h2, h3, h4, fun b hb => hFG b (h5 b hb)⟩
theorem QL.lt {w : World} {B q m : Nat} {T : List Tm} {F : Nat → Prop} (h : QL w B q m T F) : q < w.heap.size := by
  obtain ⟨v, bs, tm, pl, h1, h2, h3, h4, h5⟩ := h
  exact h1.heap.lt
theorem newL (w : World) : Calls Try.prog 22 #[] w fun e w' => e = .returned (.pointer (some ⟨w.heap.size + 1, 0, none⟩)) ∧ QL w' w.heap.size (w.heap.size + 1) w.heap.size [] (fun b => w.heap.size ≤ b) ∧ Below w.heap.size w w' := by
  refine (new_any w).mono ?_
  rintro e w' ⟨rfl, rfl⟩
  refine ⟨rfl, ⟨.slice none 0 0, [], fun _ => zeroT, fun _ => 0, newQ_at w _ _, ⟨?_, ?_, ?_, ?_, ?_⟩, List.Perm.refl _, by simp, ?_⟩, bl_alloc (bl_alloc (Below.refl _ _) _) _⟩
  · intro i hi hil; simp at hil
  · intro i hi; simp at hi
  · simp
  · simp
  · simp
  · intro b hb
    rcases hb with rfl | rfl | hb | hb
    · omega
    · omega
    · simp at hb
    · simp [Value.ownBlock] at hb
open Classical in
/-- What Put answers. -/
noncomputable def putR (T : List Tm) (x : Tm) : Int := if chkT x ≠ 0 then 2 else if x ∈ T then 5 else if 1024 ≤ T.length then 3 else 0
open Classical in
noncomputable def putT (T : List Tm) (x : Tm) : List Tm := if putR T x = 0 then x :: T else T
theorem putL (B q m : Nat) (T : List Tm) (F : Nat → Prop) (x : Tm) (w : World) (h : QL w B q m T F) (hB : B ≤ w.heap.size) (hF : ∀ b, w.heap.size ≤ b → F b) :
    Calls Try.prog 24 #[.pointer (some ⟨q, 0, none⟩), tmV x] w fun e w' => e = .returned (.int .i64 (putR T x)) ∧ QL w' B q m (putT T x) F ∧ Kw F w w' := by
  have h0 := h
  obtain ⟨v, bs, tm, pl, h1, h2, h3, h4, h5⟩ := h
  have hlen := h3.length_eq
  rw [List.length_map] at hlen
  by_cases hx : chkT x = 0
  · by_cases hm : x ∈ T
    · have hr : putR T x = 5 := by unfold putR; rw [if_neg (by simp [hx]), if_pos hm]
      have ht : putT T x = T := by unfold putT; rw [hr]; simp
      obtain ⟨b, hb, hbx⟩ := List.mem_map.1 (h3.mem_iff.2 hm)
      rw [hr, ht]
      refine (put_there B q m v bs tm pl x w h1 hx ⟨b, hb, hbx⟩).mono ?_
      rintro e w' ⟨rfl, hb⟩
      exact ⟨rfl, h0.below hb, Kw.ofBelow hb⟩
    · have hnb : ∀ b ∈ bs, tm b ≠ x := fun b hb e => hm (h3.mem_iff.1 (e ▸ List.mem_map_of_mem hb))
      by_cases hf : 1024 ≤ T.length
      · have hr : putR T x = 3 := by unfold putR; rw [if_neg (by simp [hx]), if_neg hm, if_pos hf]
        have ht : putT T x = T := by unfold putT; rw [hr]; simp
        rw [hr, ht]
        refine (put_long B q m v bs tm pl x w h1 hx hnb (by omega)).mono ?_
        rintro e w' ⟨rfl, hb⟩
        exact ⟨rfl, h0.below hb, Kw.ofBelow hb⟩
      · have hr : putR T x = 0 := by unfold putR; rw [if_neg (by simp [hx]), if_neg hm, if_neg hf]
        have ht : putT T x = x :: T := by unfold putT; rw [hr]; simp
        rw [hr, ht]
        refine (put_ok B q m v bs tm pl x w h1 hx hnb (by omega) hB).mono ?_
        rintro e w' ⟨rfl, v', b', hb', hq', hk', hv'⟩
        have hbn : b' ∉ bs := fun hm => by have := (h1.heap.item b' hm).lt; omega
        obtain ⟨i1, i2⟩ := h2.add b' x hbn hx hnb 0
        refine ⟨rfl, ⟨v', _, _, _, hq', i1, i2.trans (h3.cons x), ?_, ?_⟩, hk'.mono (fun b _ hb => h5 b hb)⟩
        · have := i2.length_eq
          simp at this
          omega
        · intro b hb
          rcases hb with h | h | h | h
          · exact h5 b (.inl h)
          · exact h5 b (.inr (.inl h))
          · rcases List.mem_append.1 ((add_perm _ _ _).mem_iff.1 h) with h | h
            · exact h5 b (.inr (.inr (.inl h)))
            · obtain rfl : b = b' := by simpa using h
              exact hF b hb'
          · rcases hv' b h with h | h
            · exact h5 b (.inr (.inr (.inr h)))
            · exact hF b h
  · have hr : putR T x = 2 := by unfold putR; rw [if_pos hx]
    have ht : putT T x = T := by unfold putT; rw [hr]; simp
    rw [hr, ht]
    refine (put_arg B q m v bs tm pl x w h1 hx).mono ?_
    rintro e w' ⟨rfl, hb⟩
    exact ⟨rfl, h0.below hb, Kw.ofBelow hb⟩
theorem dueL (B q m : Nat) (T : List Tm) (F : Nat → Prop) (upto : Int) (w : World) (h : QL w B q m T F) (hB : B ≤ w.heap.size) :
    Calls Try.prog 17 #[.pointer (some ⟨q, 0, none⟩), .int .i64 upto] w fun e w' => ∃ vo out rest, e = .returned (.tuple #[vo, .int .i64 0]) ∧ w'.ownsRow w.heap.size 23 3 vo out.length (tcells out) ∧ (out ++ rest).Perm T ∧ (∀ x ∈ out, x.t ≤ upto) ∧ (∀ x ∈ rest, upto < x.t) ∧ out.Pairwise ltT ∧ QL w' B q m rest F ∧ Kw F w w' := by
  obtain ⟨v, bs, tm, pl, h1, h2, h3, h4, h5⟩ := h
  refine (due_any B q m v bs tm pl upto w h1 h2.tnd (by omega) hB _ _ _ rfl).mono ?_
  rintro e w' ⟨vo, v', rfl, hown, hq, hk, hv⟩
  obtain ⟨s1, s2, s3, s4, s5⟩ := dueR_spec tm upto bs.length bs pl (Nat.le_refl _) h2
  generalize dueR tm upto bs.length bs pl = r at *
  obtain ⟨o, re, p⟩ := r
  dsimp only at *
  refine ⟨vo, o.map tm, re.map tm, rfl, by rw [List.length_map]; exact hown, ?_, ?_, ?_, s4, ⟨v', re, tm, p, hq, s5, List.Perm.refl _, ?_, ?_⟩, hk.mono (fun b _ hb => h5 b hb)⟩
  · rw [← List.map_append]
    exact (s1.map tm).trans h3
  · intro x hx
    obtain ⟨b, hb, rfl⟩ := List.mem_map.1 hx
    exact s2 b hb
  · intro x hx
    obtain ⟨b, hb, rfl⟩ := List.mem_map.1 hx
    exact s3 b hb
  · have := s1.length_eq
    simp at this
    omega
  · intro b hb
    rcases hb with h | h | h | h
    · exact h5 b (.inl h)
    · exact h5 b (.inr (.inl h))
    · exact h5 b (.inr (.inr (.inl (s1.mem_iff.1 (List.mem_append_right _ h)))))
    · exact h5 b (.inr (.inr (.inr (hv ▸ h))))
theorem lenL (B q m : Nat) (T : List Tm) (F : Nat → Prop) (w : World) (h : QL w B q m T F) : Calls Try.prog 20 #[.pointer (some ⟨q, 0, none⟩)] w fun e w' => e = .returned (.int .i64 T.length) ∧ w = w' := by
  obtain ⟨v, bs, tm, pl, h1, h2, h3, h4, h5⟩ := h
  have hlen := h3.length_eq
  rw [List.length_map] at hlen
  rw [← hlen]
  exact len_any B q m v bs tm pl w h1
theorem nextL_nil (B q m : Nat) (F : Nat → Prop) (w : World) (h : QL w B q m [] F) : Calls Try.prog 21 #[.pointer (some ⟨q, 0, none⟩)] w fun e w' => e = .returned (.tuple #[tmV zeroT, .bool false]) ∧ Below w.heap.size w w' := by
  obtain ⟨v, bs, tm, pl, h1, h2, h3, h4, h5⟩ := h
  have := h3.length_eq
  simp at this
  subst this
  exact next_empty B q m v tm pl w h1
theorem nextL (B q m : Nat) (T : List Tm) (F : Nat → Prop) (w : World) (h : QL w B q m T F) (hT : T ≠ []) : Calls Try.prog 21 #[.pointer (some ⟨q, 0, none⟩)] w fun e w' => ∃ x, x ∈ T ∧ (∀ y ∈ T, leT x y) ∧ e = .returned (.tuple #[tmV x, .bool true]) ∧ Below w.heap.size w w' := by
  obtain ⟨v, bs, tm, pl, h1, h2, h3, h4, h5⟩ := h
  cases bs with
  | nil =>
    have := h3.length_eq
    simp at this
    exact absurd (List.length_eq_zero_iff.1 this.symm) hT
  | cons b r =>
    refine (next_some B q m b v r tm pl w h1 (by simp at h4; omega)).mono ?_
    rintro e w' ⟨rfl, hb⟩
    refine ⟨tm b, h3.mem_iff.1 (by simp), fun y hy => ?_, rfl, hb⟩
    obtain ⟨c, hc, rfl⟩ := List.mem_map.1 (h3.mem_iff.2 hy)
    obtain ⟨i, hi, hic⟩ := List.mem_iff_getElem.1 hc
    have := top_least tm (b :: r) h2.ord i i (Nat.le_refl _) hi
    rw [getD_get hi, hic] at this
    exact this
end Go.Proofs.Ytlmnnbmihimedaa
