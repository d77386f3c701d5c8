/- The queue's map: its keys are timers, its elements pointers. Conditions: as each theorem states them. -/
import Derived.Test.YtlmnnbmihimedaaB2
import Derived.Maps.OwnSet
import Derived.Carry
import Derived.DeepKeys4
namespace Go.Proofs.Ytlmnnbmihimedaa
open Go.RowKit Go.Maps
set_option linter.unusedVariables false
set_option linter.unusedSimpArgs false

theorem c23 : Try.prog.cellsOf 23 = 3 := by kernel_rfl
theorem c2 : Try.prog.cellsOf 2 = 1 := by kernel_rfl
theorem c9 : Try.prog.cellsOf 9 = 1 := by kernel_rfl
theorem kl_int (N : Nat) (t : Int) (ht : (Lit.int .i64 t).wf = true) : Program.keyLits Try.prog (N + 1) 2 [.int .i64 t] = some [.int .i64 t] := by
  unfold Program.keyLits
  simp [Try.underlying2, ht]
theorem kl_str (N : Nat) (k : ByteArray) (hk : k.size ≤ maxLen) : Program.keyLits Try.prog (N + 1) 9 [.string k] = some [.string k.data.toList] := by
  unfold Program.keyLits
  simp [Try.underlying9, hk]
theorem kl_timer (N : Nat) (t : Int) (k s : ByteArray) (ht : (Lit.int .i64 t).wf = true) (hk : k.size ≤ maxLen) (hs : s.size ≤ maxLen) : Program.keyLits Try.prog (N + 1 + 1) 23 [.int .i64 t, .string k, .string s] = some [.int .i64 t, .string k.data.toList, .string s.data.toList] := by
  unfold Program.keyLits
  simp [Try.underlying23, c23, c2, c9, kl_int N t ht, kl_str N k hk, kl_str N s hs]
theorem key_isSome (t : Int) (k s : ByteArray) (ht : (Lit.int .i64 t).wf = true) (hk : k.size ≤ maxLen) (hs : s.size ≤ maxLen) : (keyOf Try.prog 23 (.agg #[.int .i64 t, .string k, .string s])).isSome = true := by
  have h1 : Try.prog.keyType 23 = true := by kernel_rfl
  have h2 : (Value.agg #[.int .i64 t, .string k, .string s]).formed Try.prog 23 = true := by
    simp [Value.formed, Try.underlying23, c23]
  obtain ⟨N, hN⟩ : ∃ N, Try.prog.types.size + 1 = N + 1 + 1 := ⟨Try.prog.types.size - 1, by have : 0 < Try.prog.types.size := of_decide_eq_true (by kernel_rfl); omega⟩
  unfold keyOf
  simp only [Try.underlying23, h1, h2, hN, Bool.and_self, if_true]
  have : (Value.agg #[.int .i64 t, .string k, .string s]).cells.toList = [.int .i64 t, .string k, .string s] := rfl
  rw [this, kl_timer N t k s ht hk hs]
  rfl
theorem lawK : WideMaps.KeyLaw Try.prog 23 := deep_law_laid (by kernel_rfl) (m := 2) (by omega) (of_decide_eq_true (by kernel_rfl)) (by kernel_rfl) (by kernel_rfl)
theorem keyK : Keyed Try.prog 23 := Keyed.of_law lawK
theorem u56 : Try.prog.underlying 56 = some (.map 23 65) := by kernel_rfl
theorem zero65 (w : World) : (zeroValue 65).run Try.prog w = .ok (.pointer none) w := by kernel_rfl
/-- A timer as a value. -/
def tmV (x : Tm) : Value := .agg #[.int .i64 x.t, .string x.k, .string x.s]
/-- A timer that may be a key. -/
def okT (x : Tm) : Prop := -9223372036854775808 ≤ x.t ∧ x.t < 9223372036854775808 ∧ x.k.size ≤ maxLen ∧ x.s.size ≤ maxLen
theorem okT_chk {x : Tm} (h : chkT x = 0) : okT x := by
  unfold chkT at h
  split at h
  · cases h
  · rename_i hn
    simp only [not_or, Int.not_lt, Nat.not_lt] at hn
    unfold okT maxLen
    omega
noncomputable def klT (x : Tm) : Lit := (keyOf Try.prog 23 (tmV x)).getD (.bool false)
theorem key_some {x : Tm} (h : okT x) : keyOf Try.prog 23 (tmV x) = some (klT x) := by
  have h1 : (keyOf Try.prog 23 (tmV x)).isSome = true := by
    obtain ⟨a, b, c, d⟩ := h
    refine key_isSome _ _ _ ?_ c d
    have h1 : IntKind.min .i64 = -9223372036854775808 := by decide
    have h2 : IntKind.max .i64 = 9223372036854775807 := by decide
    show (decide (IntKind.min .i64 ≤ x.t) && decide (x.t ≤ IntKind.max .i64)) = true
    rw [h1, h2, Bool.and_eq_true, decide_eq_true_eq, decide_eq_true_eq]
    omega
  unfold klT
  obtain ⟨l, hl⟩ := Option.isSome_iff_exists.1 h1
  rw [hl]
  rfl
theorem kl_inj {x y : Tm} (hx : okT x) (hy : okT y) (h : klT x = klT y) : x = y := by
  have h1 := key_some hx
  have h2 := key_some hy
  rw [h] at h1
  have := keyK.inj h1 h2
  simp [tmV] at this
  cases x; cases y
  simp_all
theorem kl_key {x : Tm} (hx : okT x) : WideAt.IsKeyLit (klT x) := keyK.key (key_some hx)
/-- How an element reads: its block. -/
def RQ : Value → Option (DataW Unit × List MemPlace)
  | .pointer none => some (.nil, [])
  | .pointer (some a) => if a.off = 0 ∧ a.spot = none then some (.lit (.int .i64 a.block), []) else none
  | _ => none
theorem RQ_ptr (b : Nat) : RQ (ptrV b) = some (.lit (.int .i64 b), []) := by simp [RQ, ptrV]
theorem RQ_nil : RQ (.pointer none) = some (.nil, []) := rfl
theorem RQ_nil_inv {v : Value} {ps : List MemPlace} (h : RQ v = some (.nil, ps)) : v = .pointer none := by
  unfold RQ at h
  split at h
  · rfl
  · split at h <;> simp at h
  · cases h
theorem RQ_ptr_inv {v : Value} {b : Nat} {ps : List MemPlace} (h : RQ v = some (.lit (.int .i64 b), ps)) : v = ptrV b := by
  unfold RQ at h
  split at h
  · simp at h
  · rename_i a
    split at h
    · rename_i hh
      obtain ⟨b', o, s⟩ := a
      simp at h hh
      obtain ⟨rfl, rfl⟩ := hh
      have : b' = b := by omega
      subst this
      rfl
    · cases h
  · cases h
/-- Block m is a map of the timers of the blocks of L, each with its block. -/
def MapAt (w : World) (m : Nat) (L : List Nat) (tm : Nat → Tm) : Prop :=
  (∀ b ∈ L, okT (tm b)) ∧ ∃ D : DataW Unit, w.ownsMap Try.prog 23 RQ m L.length D ∧ size D = L.length ∧ (∀ b ∈ L, has D (klT (tm b)) = true ∧ D.atKey (klT (tm b)) .nil = .lit (.int .i64 b)) ∧ ∀ x, okT x → (∀ b ∈ L, tm b ≠ x) → has D (klT x) = false
theorem own_tight {w : World} {m n : Nat} {D : DataW Unit} (h : w.ownsMap Try.prog 23 RQ m n D) : w.ownsMap Try.prog 23 RQ m (size D) D := by
  obtain ⟨es, clock, hb, F, hs, rfl⟩ := h
  exact ⟨es, clock, hb, F, by simp [size, length_sorted], rfl⟩
theorem MapAt.lt {w : World} {m : Nat} {L : List Nat} {tm : Nat → Tm} (h : MapAt w m L tm) : m < w.heap.size := by
  obtain ⟨_, D, h1, _⟩ := h
  exact h1.lt
theorem MapAt.made (w : World) (tm : Nat → Tm) : MapAt (w.alloc (.map #[] 0)) w.heap.size [] tm :=
  ⟨by simp, .map [], World.ownsMap_made w _ _ _, rfl, by simp, fun x _ _ => rfl⟩
theorem MapAt.kw {w w' : World} {S : Nat → Prop} {m : Nat} {L : List Nat} {tm : Nat → Tm} (h : MapAt w m L tm) (k : Kw S w w') (hm : ¬ S m) : MapAt w' m L tm := by
  obtain ⟨h0, D, ho, h1⟩ := h
  have hlt := ho.lt
  obtain ⟨es, clock, hb, F, hs, hD⟩ := ho
  exact ⟨h0, D, ⟨es, clock, (k.block m hlt hm).trans hb, F, hs, hD⟩, h1⟩
theorem MapAt.perm {w : World} {m : Nat} {L L' : List Nat} {tm : Nat → Tm} (h : MapAt w m L tm) (hp : L'.Perm L) : MapAt w m L' tm := by
  obtain ⟨h0, D, ho, h1, h2, h3⟩ := h
  have hl := hp.length_eq
  exact ⟨fun b hb => h0 b (hp.mem_iff.1 hb), D, hl ▸ ho, by omega, fun b hb => h2 b (hp.mem_iff.1 hb), fun x hx hn => h3 x hx (fun b hb => hn b (hp.mem_iff.2 hb))⟩
theorem MapAt.tm {w : World} {m : Nat} {L : List Nat} {tm tm' : Nat → Tm} (h : MapAt w m L tm) (he : ∀ b ∈ L, tm' b = tm b) : MapAt w m L tm' := by
  obtain ⟨h0, D, ho, h1, h2, h3⟩ := h
  exact ⟨fun b hb => he b hb ▸ h0 b hb, D, ho, h1, fun b hb => he b hb ▸ h2 b hb, fun x hx hn => h3 x hx (fun b hb => he b hb ▸ hn b hb)⟩
/-- What stands at a timer: the block, or nothing. -/
theorem MapAt.look {w : World} {m : Nat} {L : List Nat} {tm : Nat → Tm} (h : MapAt w m L tm) {x : Tm} (hx : okT x) (u : Value) (hu : (∃ b ∈ L, tm b = x ∧ u = ptrV b) ∨ ((∀ b ∈ L, tm b ≠ x) ∧ u = .pointer none)) :
    (Instr.lookup 56 (.map (some m)) (tmV x) false).run Try.prog w = .ok u w := by
  obtain ⟨h0, D, ho, h1, h2, h3⟩ := h
  obtain ⟨v, ps, hrun, hv⟩ := ho.lookup keyK u56 (zero65 w) RQ_nil (key_some hx)
  rcases hu with ⟨b, hb, rfl, rfl⟩ | ⟨hn, rfl⟩
  · rw [(h2 b hb).2] at hv
    rw [hrun, RQ_ptr_inv hv]
  · rw [atKey_of_not_has (h3 x hx hn)] at hv
    rw [hrun, RQ_nil_inv hv]
theorem MapAt.len {w : World} {m : Nat} {L : List Nat} {tm : Nat → Tm} (h : MapAt w m L tm) (ty : TypeId) : (Builtin.len_ #[56] ty #[.map (some m)]).run Try.prog w = .ok (.int .i64 L.length) w := by
  obtain ⟨h0, D, ho, h1, h2, h3⟩ := h
  rw [ho.len u56 ty, h1]
theorem turned_kw {w w' : World} {m : Nat} {S : Nat → Prop} (h : w.mapTurned w' m) (hS : S m) : Kw S w w' :=
  (Kw.refl S w).grown h.grown (fun k hk => by cases hk; exact hS)
theorem MapAt.put {w : World} {m : Nat} {L : List Nat} {tm : Nat → Tm} (h : MapAt w m L tm) (b : Nat) (hb : okT (tm b)) (hn : ∀ c ∈ L, tm c ≠ tm b) (hL : L.length < maxLen) :
    ∃ w', (Instr.mapUpdate 56 (.map (some m)) (tmV (tm b)) (ptrV b)).run Try.prog w = .ok () w' ∧ MapAt w' m (b :: L) tm ∧ w.mapTurned w' m := by
  obtain ⟨h0, D, ho, h1, h2, h3⟩ := h
  obtain ⟨w', hrun, ho', ht⟩ := ho.store keyK u56 hL (key_some hb) (RQ_ptr b)
  have hD := ho.tidy keyK
  refine ⟨w', hrun, ⟨?_, D.put (klT (tm b)) (.lit (.int .i64 b)), ho', ?_, ?_, ?_⟩, ht⟩
  · intro c hc
    rcases List.mem_cons.1 hc with rfl | hc
    · exact hb
    · exact h0 c hc
  · rw [size_put hD, h3 _ hb hn, h1]
    simp
  · intro c hc
    rcases List.mem_cons.1 hc with rfl | hc
    · exact ⟨has_put_same hD.isMap (kl_key hb) _, atKey_put_same hD.isMap (kl_key hb) _ _⟩
    · have hne : klT (tm c) ≠ klT (tm b) := fun e => hn c hc (kl_inj (h0 c hc) hb e)
      rw [has_put_other hne, atKey_put_other hne]
      exact h2 c hc
  · intro x hx hnx
    have hne : klT x ≠ klT (tm b) := fun e => hnx b (by simp) (kl_inj hx hb e).symm
    rw [has_put_other hne]
    exact h3 x hx (fun c hc => hnx c (by simp [hc]))
theorem MapAt.del {w : World} {m : Nat} {L : List Nat} {tm : Nat → Tm} (h : MapAt w m L tm) (b : Nat) (L' : List Nat) (hp : L.Perm (b :: L')) (hinj : ∀ c ∈ L', tm c ≠ tm b) (ty : TypeId) :
    ∃ w', (Builtin.delete_ #[56, 23] ty #[.map (some m), tmV (tm b)]).run Try.prog w = .ok (.tuple #[]) w' ∧ MapAt w' m L' tm ∧ w.mapTurned w' m := by
  have h := h.perm hp.symm
  obtain ⟨h0, D, ho, h1, h2, h3⟩ := h
  have hb := h0 b (by simp)
  obtain ⟨w', hrun, ho', ht⟩ := ho.drop keyK u56 (key_some hb) ty
  have hD := ho.tidy keyK
  have hsz : size (D.del (klT (tm b))) = L'.length := by
    have := size_del (k := klT (tm b)) hD
    rw [(h2 b (by simp)).1, h1] at this
    simpa using this
  refine ⟨w', hrun, ⟨fun c hc => h0 c (by simp [hc]), D.del (klT (tm b)), hsz ▸ own_tight ho', hsz, ?_, ?_⟩, ht⟩
  · intro c hc
    have hne : klT (tm c) ≠ klT (tm b) := fun e => hinj c hc (kl_inj (h0 c (by simp [hc])) hb e)
    rw [has_del_other hne, atKey_del_other hne]
    exact h2 c (by simp [hc])
  · intro x hx hnx
    by_cases e : klT x = klT (tm b)
    · rw [e]
      exact has_del_same
    · rw [has_del_other e]
      refine h3 x hx (fun c hc => ?_)
      rcases List.mem_cons.1 hc with rfl | hc
      · intro e'
        exact e (by rw [e'])
      · exact hnx c hc
end Go.Proofs.Ytlmnnbmihimedaa
