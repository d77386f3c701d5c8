/- The queue beside the reference's list, call by call. Conditions: as each theorem states them. -/
import Derived.Test.YtlmnnbmihimedaaV4
namespace Go.Proofs.Ytlmnnbmihimedaa
open Go.RowKit Go.Maps
set_option linter.unusedVariables false
set_option linter.unusedSimpArgs false

/-- The queue holds T, apart from the list's slice. -/
def MidP (W w : World) (v : Value) (l T : List Tm) : Prop :=
  LS w v l ∧ l.Pairwise ltT ∧ QL w W.heap.size (W.heap.size + 1) W.heap.size T (fun b => W.heap.size ≤ b ∧ b < w.heap.size ∧ v.ownBlock ≠ some b)
theorem MidP.below {W w w' : World} {v : Value} {l T : List Tm} (h : MidP W w v l T) (k : Below w.heap.size w w') : MidP W w' v l T :=
  ⟨h.1.below k, h.2.1, (h.2.2.below k).mono (fun b hb => ⟨hb.1, Nat.lt_of_lt_of_le hb.2.1 k.size, hb.2.2⟩)⟩
theorem MidP.perm {W w : World} {v : Value} {l T : List Tm} (h : MidP W w v l T) (k : T.Perm l) : MidP W w v l l := ⟨h.1, h.2.1, h.2.2.perm k⟩
theorem MidP.length {W w : World} {v : Value} {l : List Tm} (h : MidP W w v l l) : l.length ≤ 1024 := h.2.2.length
theorem kw_ge {W w w' : World} {v : Value} (k : Kw (fun b => W.heap.size ≤ b ∧ b < w.heap.size ∧ v.ownBlock ≠ some b) w w') : Kw (fun b => W.heap.size ≤ b) w w' := k.mono (fun b _ h => h.1)
theorem mid_put (W w : World) (v : Value) (l : List Tm) (x : Tm) (h : MidP W w v l l) :
    Calls Try.prog 23 #[v, tmV x] w fun e w' => ∃ A c l', e = .returned (.tuple #[.slice A (List.length (α := Tm) l') c, .int .i64 (putR l x)]) ∧ MidP W w' (.slice A l'.length c) l' l ∧ (putT l x).Perm l' ∧ Below w.heap.size w w' := by
  have hlen := h.length
  obtain ⟨h1, h2, h3⟩ := h
  refine (put_sum v l x w h1 h2 hlen).mono ?_
  rintro e w' ⟨vo, l', rfl, hls, hs, hp, hown, hb⟩
  have hls0 := hls
  obtain ⟨A, c, rfl, _⟩ := hls0
  refine ⟨A, c, l', rfl, ⟨hls, hs, (h3.below hb).mono (fun b hb' => ⟨hb'.1, Nat.lt_of_lt_of_le hb'.2.1 hb.size, fun he => ?_⟩)⟩, hp, hb⟩
  rcases hown b he with h | h
  · exact hb'.2.2 h
  · have := hb'.2.1; omega
theorem mid_qput (W w : World) (v : Value) (l T : List Tm) (x : Tm) (h : MidP W w v l T) (hp : (putT T x).Perm l) (hW : W.heap.size ≤ w.heap.size) :
    Calls Try.prog 24 #[.pointer (some ⟨W.heap.size + 1, 0, none⟩), tmV x] w fun e w' => e = .returned (.int .i64 (putR T x)) ∧ MidP W w' v l l ∧ Kw (fun b => W.heap.size ≤ b) w w' := by
  obtain ⟨h1, h2, h3⟩ := h
  have hlt := h1.lt
  refine (putL _ _ _ T (fun b => W.heap.size ≤ b ∧ v.ownBlock ≠ some b) x w (h3.mono (fun b hb => ⟨hb.1, hb.2.2⟩)) hW (fun b hb => ⟨by omega, fun he => by have := hlt b he; omega⟩)).mono ?_
  rintro e w' ⟨rfl, hq, hk⟩
  exact ⟨rfl, ⟨h1.kw hk (fun b hb hs => hs.2 hb), h2, (hq.perm hp).bound.mono (fun b hb => ⟨hb.1.1, hb.2, hb.1.2⟩)⟩, hk.mono (fun b _ h => h.1)⟩
theorem mid_drop (W w : World) (v : Value) (l : List Tm) (x : Tm) (h : MidP W w v l l) :
    Calls Try.prog 25 #[v, tmV x] w fun e w' => ∃ A c l', e = .returned (.tuple #[.slice A (List.length (α := Tm) l') c, .int .i64 (dropR l x)]) ∧ MidP W w' (.slice A l'.length c) l' l ∧ ((dropR l x = 0 ∧ l.Perm (x :: l')) ∨ (dropR l x ≠ 0 ∧ l' = l)) ∧ Below w.heap.size w w' := by
  have hlen := h.length
  obtain ⟨h1, h2, h3⟩ := h
  refine (drop_sum v l x w h1 h2 hlen).mono ?_
  rintro e w' ⟨vo, l', rfl, hls, hs, hp, hown, hb⟩
  have hls0 := hls
  obtain ⟨A, c, rfl, _⟩ := hls0
  refine ⟨A, c, l', rfl, ⟨hls, hs, (h3.below hb).mono (fun b hb' => ⟨hb'.1, Nat.lt_of_lt_of_le hb'.2.1 hb.size, fun he => ?_⟩)⟩, hp, hb⟩
  rcases hown b he with h | h
  · exact hb'.2.2 h
  · have := hb'.2.1; omega
theorem mid_qdrop (W w : World) (v : Value) (l T : List Tm) (x : Tm) (h : MidP W w v l T) (hp : (dropR T x = 0 ∧ T.Perm (x :: l)) ∨ (dropR T x ≠ 0 ∧ l = T)) (hW : W.heap.size ≤ w.heap.size) :
    Calls Try.prog 26 #[.pointer (some ⟨W.heap.size + 1, 0, none⟩), tmV x] w fun e w' => e = .returned (.int .i64 (dropR T x)) ∧ MidP W w' v l l ∧ Kw (fun b => W.heap.size ≤ b) w w' := by
  obtain ⟨h1, h2, h3⟩ := h
  refine (dropL _ _ _ T _ x w h3).mono ?_
  rintro e w' ⟨rfl, hk, T', hq, hT'⟩
  have hTl : T'.Perm l := by
    rcases hp with ⟨h0, hp⟩ | ⟨h0, rfl⟩
    · rcases hT' with ⟨_, hT'⟩ | ⟨h0', _⟩
      · exact (hT'.symm.trans hp).cons_inv
      · exact absurd h0 h0'
    · rcases hT' with ⟨h0', _⟩ | ⟨_, rfl⟩
      · exact absurd h0' h0
      · exact List.Perm.refl _
  exact ⟨rfl, ⟨h1.kw hk (fun b hb hs => hs.2.2 hb), h2, (hq.perm hTl).bound.mono (fun b hb => ⟨hb.1.1, hb.2, hb.1.2.2⟩)⟩, kw_ge hk⟩
theorem mid_due (W w : World) (A : Option Addr) (c : Nat) (l : List Tm) (u : Int) (k : Nat) (h : MidP W w (.slice A l.length c) l l) (hd : IsDue l u k) (hW : W.heap.size ≤ w.heap.size) :
    Calls Try.prog 17 #[.pointer (some ⟨W.heap.size + 1, 0, none⟩), .int .i64 u] w fun e w' => ∃ Ao co, e = .returned (.tuple #[.slice Ao k co, .int .i64 0]) ∧ RdT w' w'.heap.size Ao (l.take k) ∧ RdT w' w'.heap.size A (l.take k) ∧ MidP W w' (.slice A l.length c) l (l.drop k) ∧ Kw (fun b => W.heap.size ≤ b) w w' := by
  obtain ⟨h1, h2, h3⟩ := h
  refine (dueL _ _ _ l _ u w h3 hW).mono ?_
  rintro e w' ⟨vo, out, rest, rfl, hown, hp, ho, hr, hos, hq, hk⟩
  obtain ⟨rfl, hrest⟩ := due_split h2 hd hp ho hr hos
  obtain ⟨Ao, co, rfl, _, hR, _⟩ := own_rd hown
  have hkl : (l.take k).length = k := by rw [List.length_take]; have := hd.1; omega
  rw [hkl]
  have h1' := h1.kw hk (fun b hb hs => hs.2.2 hb)
  have hR1 : RdT w' w'.heap.size A l := by
    obtain ⟨A', c', e, _, hR', _⟩ := h1'
    cases e
    exact hR'
  exact ⟨Ao, co, rfl, hR, hR1.take k, ⟨h1', h2, (hq.perm hrest).bound.mono (fun b hb => ⟨hb.1.1, hb.2, hb.1.2.2⟩)⟩, kw_ge hk⟩
theorem mid_tail0 {W w : World} {A : Option Addr} {l : List Tm} {k : Nat} (h : MidP W w (.slice A l.length k) l (l.drop k)) : l.drop k = [] ∧ MidP W w (.slice A 0 0) [] [] := by
  obtain ⟨⟨A', c, e, h1, h2, h3, h4⟩, hs, hq⟩ := h
  cases e
  have e : l.drop k = [] := List.drop_eq_nil_of_le h1
  rw [e] at hq
  refine ⟨e, ⟨A, 0, rfl, Nat.le_refl _, RdT.nil, fun _ => rfl, h4⟩, List.Pairwise.nil, hq.mono (fun b hb => ⟨hb.1, hb.2.1, fun he => hb.2.2 ?_⟩)⟩
  cases A with
  | none => simp [Value.ownBlock] at he
  | some a => exact he
theorem mid_tail {W w : World} {a : Addr} {c : Nat} {l : List Tm} {k : Nat} (h : MidP W w (.slice (some a) l.length c) l (l.drop k)) (hk : k ≤ l.length) : MidP W w (.slice (some (a.add (k * 3))) (l.length - k) (c - k)) (l.drop k) (l.drop k) := by
  obtain ⟨⟨A', c', e, h1, h2, h3, h4⟩, hs, hq⟩ := h
  cases e
  have e : (l.drop k).length = l.length - k := List.length_drop
  have hblk : (a.add (k * 3)).block = a.block := by unfold Addr.add; split <;> rfl
  refine ⟨⟨some (a.add (k * 3)), c - k, by rw [e], by rw [e]; omega, h2.drop k, (fun h => by cases h), fun a2 ha => ?_⟩, due_pw k hs, hq.mono (fun b hb => ⟨hb.1, hb.2.1, fun he => hb.2.2 ?_⟩)⟩
  · cases ha
    rw [hblk]
    exact h4 a rfl
  · simp only [Value.ownBlock, hblk] at he ⊢
    exact he
theorem mid_some {W w : World} {A : Option Addr} {c : Nat} {l T : List Tm} (h : MidP W w (.slice A l.length c) l T) (hc : ¬ c = 0) : ∃ a, A = some a := by
  obtain ⟨⟨A', c', e, h1, h2, h3, h4⟩, hs, hq⟩ := h
  cases e
  cases A with
  | none => exact absurd (h3 rfl) hc
  | some a => exact ⟨a, rfl⟩
theorem mid_next0 (W w : World) (v : Value) (h : MidP W w v [] []) :
    Calls Try.prog 21 #[.pointer (some ⟨W.heap.size + 1, 0, none⟩)] w fun e w' => e = .returned (.tuple #[.agg #[.int .i64 0, .string ⟨#[]⟩, .string ⟨#[]⟩], .bool false]) ∧ Below w.heap.size w w' := nextL_nil _ _ _ _ w h.2.2
theorem mid_next (W w : World) (v : Value) (y : Tm) (l : List Tm) (h : MidP W w v (y :: l) (y :: l)) :
    Calls Try.prog 21 #[.pointer (some ⟨W.heap.size + 1, 0, none⟩)] w fun e w' => e = .returned (.tuple #[.agg #[.int .i64 y.t, .string y.k, .string y.s], .bool true]) ∧ Below w.heap.size w w' := by
  refine (nextL _ _ _ _ _ w h.2.2 (by simp)).mono ?_
  rintro e w' ⟨x, hx, hm, rfl, hb⟩
  obtain rfl := next_first h.2.1 hx hm
  exact ⟨rfl, hb⟩
theorem mid_len (W w : World) (v : Value) (l : List Tm) (h : MidP W w v l l) : Calls Try.prog 20 #[.pointer (some ⟨W.heap.size + 1, 0, none⟩)] w fun e w' => e = .returned (.int .i64 l.length) ∧ w = w' := lenL _ _ _ _ _ w h.2.2
theorem mid_list (W w : World) (A : Option Addr) (c : Nat) (l : List Tm) (h : MidP W w (.slice A l.length c) l l) :
    Calls Try.prog 19 #[.pointer (some ⟨W.heap.size + 1, 0, none⟩)] w fun e w' => ∃ Ao co, e = .returned (.slice Ao l.length co) ∧ RdT w' w'.heap.size Ao l ∧ RdT w' w'.heap.size A l ∧ Below w.heap.size w w' := by
  refine (listL _ _ _ _ _ w h.2.2).mono ?_
  rintro e w' ⟨vq, L, rfl, hown, hp, hs, hb⟩
  obtain rfl : L = l := sorted_eq hp hs h.2.1
  obtain ⟨Ao, co, rfl, _, hR, _⟩ := own_rd hown
  have h1' := h.1.below hb
  have hR1 : RdT w' w'.heap.size A L := by
    obtain ⟨A', c', e, _, hR', _⟩ := h1'
    cases e
    exact hR'
  exact ⟨Ao, co, rfl, hR, hR1, hb⟩
end Go.Proofs.Ytlmnnbmihimedaa
