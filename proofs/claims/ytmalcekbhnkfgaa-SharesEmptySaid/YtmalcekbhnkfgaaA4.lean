/- The map of files by their numbers; which points are right. Conditions: as each theorem states them. -/
import Derived.Test.YtmalcekbhnkfgaaA3
import Derived.Maps.OwnIn
namespace Go.Proofs.Ytmalcekbhnkfgaa
open Go.RowKit Go.Maps Go.Shelf
set_option linter.unusedVariables false
set_option linter.unusedSimpArgs false

def encS (f : Sh) : DataW Unit := .agg [.lit (.int .u64 f.tb), .lit (.int .i64 f.sz), .lit (.int .u32 f.sm), .lit (.int .u64 f.nm)]
theorem shV_inj {f g : Sh} (h : shV f = shV g) : f = g := by
  obtain ⟨a, b, c, d, _, _, _, _⟩ := f
  obtain ⟨a', b', c', d', _, _, _, _⟩ := g
  simp [shV] at h
  obtain ⟨rfl, rfl, rfl, rfl⟩ := h
  rfl
theorem encS_inj {f g : Sh} (h : encS f = encS g) : f = g := by
  obtain ⟨a, b, c, d, _, _, _, _⟩ := f
  obtain ⟨a', b', c', d', _, _, _, _⟩ := g
  simp [encS] at h
  obtain ⟨rfl, rfl, rfl, rfl⟩ := h
  rfl
open Classical in
/-- How a file reads as an element. -/
noncomputable def RS (v : Value) : Option (DataW Unit × List MemPlace) := if h : ∃ f : Sh, v = shV f then some (encS (Classical.choose h), []) else none
theorem RS_mk (f : Sh) : RS (shV f) = some (encS f, []) := by
  have hex : ∃ g : Sh, shV f = shV g := ⟨f, rfl⟩
  unfold RS
  rw [dif_pos hex, ← shV_inj (Classical.choose_spec hex)]
theorem RS_inv {v : Value} {f : Sh} {ps : List MemPlace} (h : RS v = some (encS f, ps)) : v = shV f := by
  unfold RS at h
  split at h
  · rename_i hex
    simp only [Option.some.injEq, Prod.mk.injEq] at h
    have h2 := Classical.choose_spec hex
    rw [encS_inj h.1] at h2
    exact h2
  · cases h
theorem u61 : Try.prog.underlying 61 = some (.map 23 36) := by kernel_rfl
theorem zero36 (w : World) : (zeroValue 36).run Try.prog w = .ok (shV zeroS) w := by kernel_rfl
/-- Block b is a map of the files of L, by their numbers. -/
def FstAt (w : World) (b : Nat) (L : List Sh) : Prop :=
  ∃ D : DataW Unit, w.ownsMap Try.prog 23 RS b L.length D ∧ (∀ f ∈ L, has D (.int .u64 f.nm) = true ∧ ∃ g ∈ L, g.nm = f.nm ∧ ∀ z, D.atKey (.int .u64 f.nm) z = encS g) ∧ ∀ x, (Lit.int .u64 x).wf = true → (∀ f ∈ L, f.nm ≠ x) → has D (.int .u64 x) = false
theorem FstAt.lt {w : World} {b : Nat} {L : List Sh} (h : FstAt w b L) : b < w.heap.size := by obtain ⟨D, h1, _⟩ := h; exact h1.lt
theorem FstAt.made (w : World) : FstAt (w.alloc (.map #[] 0)) w.heap.size [] := ⟨.map [], World.ownsMap_made w _ _ _, by simp, fun x _ _ => rfl⟩
theorem FstAt.grown {w w' : World} {row : Option Nat} {b : Nat} {L : List Sh} (h : FstAt w b L) (g : w.grownBy w' row) (hb : some b ≠ row) : FstAt w' b L := by
  obtain ⟨D, ho, h1⟩ := h
  have hlt := ho.lt
  obtain ⟨es, clock, hb', F, hs, hD⟩ := ho
  exact ⟨D, ⟨es, clock, (g.block b hlt hb).trans hb', F, hs, hD⟩, h1⟩
theorem FstAt.below {w w' : World} {B b : Nat} {L : List Sh} (h : FstAt w b L) (k : Below B w w') (hb : b < B) : FstAt w' b L := by
  obtain ⟨D, ho, h1⟩ := h
  obtain ⟨es, clock, hb', F, hs, hD⟩ := ho
  exact ⟨D, ⟨es, clock, (k.block b hb).trans hb', F, hs, hD⟩, h1⟩
/-- No two of them have one number, and are not the same. -/
def noClash (L : List Sh) : Prop := ∀ f ∈ L, ∀ g ∈ L, f.nm = g.nm → f = g
theorem FstAt.look_some {w : World} {b : Nat} {L : List Sh} (h : FstAt w b L) (hn : noClash L) {f : Sh} (hf : f ∈ L) :
    (Instr.lookup 61 (.map (some b)) (.int .u64 f.nm) true).run Try.prog w = .ok (.tuple #[shV f, .bool true]) w := by
  obtain ⟨D, ho, h1, h2⟩ := h
  obtain ⟨v, ps, hrun, hv⟩ := ho.look_ok K23 u61 (zero36 w) (RS_mk zeroS) (key23 f.wn)
  obtain ⟨hh, g, hg, hgf, hat⟩ := h1 f hf
  obtain rfl := hn g hg f hf hgf
  rw [hat] at hv
  rw [hrun, RS_inv hv, hh]
theorem FstAt.look_none {w : World} {b : Nat} {L : List Sh} (h : FstAt w b L) {x : Int} (hx : (Lit.int .u64 x).wf = true) (hn : ∀ f ∈ L, f.nm ≠ x) :
    (Instr.lookup 61 (.map (some b)) (.int .u64 x) true).run Try.prog w = .ok (.tuple #[shV zeroS, .bool false]) w := by
  obtain ⟨D, ho, h1, h2⟩ := h
  obtain ⟨v, ps, hrun, hv⟩ := ho.look_ok K23 u61 (zero36 w) (RS_mk zeroS) (key23 hx)
  have hh := h2 x hx hn
  rw [atKey_of_not_has hh] at hv
  rw [hrun, RS_inv hv, hh]
theorem FstAt.store {w : World} {b : Nat} {L : List Sh} (h : FstAt w b L) (f : Sh) (hL : L.length < 1000000) :
    ∃ w', (Instr.mapUpdate 61 (.map (some b)) (.int .u64 f.nm) (shV f)).run Try.prog w = .ok () w' ∧ FstAt w' b (L ++ [f]) ∧ w.grownBy w' (some b) := by
  obtain ⟨D, ho, h1, h2⟩ := h
  obtain ⟨w', hrun, r1, r2⟩ := ho.update K23 u61 (by unfold maxLen; omega) (key23 f.wn) (RS_mk f)
  have hD := ho.isMap
  have hk : WideAt.IsKeyLit (.int .u64 f.nm) := K23.key (key23 f.wn)
  refine ⟨w', hrun, ⟨_, by rw [List.length_append]; exact r1, fun g hg => ?_, fun x hx hn => ?_⟩, r2⟩
  · by_cases hgf : g.nm = f.nm
    · rw [hgf, has_put_same hD hk]
      exact ⟨rfl, f, by simp, rfl, fun z => atKey_put_same hD hk _ z⟩
    · have hne : (Lit.int .u64 g.nm) ≠ (Lit.int .u64 f.nm) := by simp [hgf]
      have hgL : g ∈ L := by
        rcases List.mem_append.1 hg with h | h
        · exact h
        · exact absurd (by rw [List.mem_singleton.1 h]) hgf
      obtain ⟨a1, g', a2, a3, a4⟩ := h1 g hgL
      rw [has_put_other hne]
      exact ⟨a1, g', List.mem_append_left _ a2, a3, fun z => by rw [atKey_put_other hne]; exact a4 z⟩
  · have hne : (Lit.int .u64 x) ≠ (Lit.int .u64 f.nm) := by
      have := hn f (by simp)
      simp only [ne_eq, Lit.int.injEq, true_and]
      exact fun e => this e.symm
    rw [has_put_other hne]
    exact h2 x hx (fun g hg => hn g (List.mem_append_left _ hg))
theorem noClash_snoc {L : List Sh} {f : Sh} : noClash (L ++ [f]) ↔ noClash L ∧ ∀ g ∈ L, g.nm = f.nm → g = f := by
  unfold noClash
  constructor
  · intro h
    exact ⟨fun g hg g' hg' e => h g (List.mem_append_left _ hg) g' (List.mem_append_left _ hg') e, fun g hg e => h g (List.mem_append_left _ hg) f (by simp) e⟩
  · rintro ⟨h1, h2⟩ g hg g' hg' e
    rcases List.mem_append.1 hg with hg | hg
    · rcases List.mem_append.1 hg' with hg' | hg'
      · exact h1 g hg g' hg' e
      · have e' := List.mem_singleton.1 hg'
        rw [e'] at e ⊢
        exact h2 g hg e
    · have e2 := List.mem_singleton.1 hg
      rcases List.mem_append.1 hg' with hg' | hg'
      · rw [e2] at e ⊢
        exact (h2 g' hg' e.symm).symm
      · rw [e2, List.mem_singleton.1 hg']
/-! Which points are right. -/
def allF (l : List Pt) : List Sh := (flat 0 l).map Prod.snd
def idsUp (l : List Pt) : Prop := l.Pairwise (fun p q => p.id < q.id)
def RightP (l : List Pt) : Prop := l.length ≤ 16 ∧ (∀ p ∈ l, mayP p) ∧ idsUp l ∧ noClash (allF l)
open Classical in
noncomputable def rightB (l : List Pt) : Bool := decide (RightP l)
theorem rightB_t {l : List Pt} (h : RightP l) : rightB l = true := by simp [rightB, h]
theorem rightB_f {l : List Pt} (h : ¬ RightP l) : rightB l = false := by simp [rightB, h]
theorem idsUp_snoc {l : List Pt} {i : Nat} (hi : i < l.length) (h : idsUp (l.take i)) : idsUp (l.take (i + 1)) ↔ (0 < i → (l.getD (i - 1) zeroP).id < (l.getD i zeroP).id) := by
  have hget : ∀ j, j < i → (hj : j < l.length) → l[j] ∈ l.take i := fun j hj hjl => List.mem_take_iff_getElem.2 ⟨j, by omega, rfl⟩
  unfold idsUp at *
  rw [take_snocP hi, List.pairwise_append]
  constructor
  · rintro ⟨_, _, h3⟩ h0
    rw [getP (show i - 1 < l.length by omega)]
    exact h3 _ (hget (i - 1) (by omega) (by omega)) _ (by simp)
  · intro h1
    refine ⟨h, by simp, fun a ha b hb => ?_⟩
    obtain rfl := List.mem_singleton.1 hb
    obtain ⟨j, hj, rfl⟩ := List.mem_take_iff_getElem.1 ha
    have h2 := h1 (by omega)
    by_cases hji : j = i - 1
    · subst hji
      rw [getP (show i - 1 < l.length by omega)] at h2
      exact h2
    · have h4 := List.pairwise_iff_getElem.1 h j (i - 1) (by rw [List.length_take]; omega) (by rw [List.length_take]; omega) (by omega)
      simp only [List.getElem_take] at h4
      rw [getP (show i - 1 < l.length by omega)] at h2
      exact Int.lt_trans h4 h2
theorem idsUp.take {l : List Pt} (h : idsUp l) (k : Nat) : idsUp (l.take k) := h.sublist (List.take_sublist _ _)
theorem flat_length_le (k : Nat) (l : List Pt) (h : ∀ p ∈ l, p.fs.length ≤ 256) : (flat k l).length ≤ l.length * 256 := by
  induction l generalizing k with
  | nil => simp [flat]
  | cons p l ih =>
    have h1 := ih (k + 1) (fun q hq => h q (List.mem_cons_of_mem _ hq))
    have h2 := h p (by simp)
    simp only [flat, List.length_append, List.length_map, List.length_cons]
    omega
end Go.Proofs.Ytmalcekbhnkfgaa
