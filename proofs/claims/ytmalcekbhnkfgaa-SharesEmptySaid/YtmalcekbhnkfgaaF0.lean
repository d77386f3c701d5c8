/- Openings of points and of a point, with what a nil slice has; points that are the same are right alike. Conditions: as each theorem states them. -/
import Derived.Test.YtmalcekbhnkfgaaC2
import Derived.Test.YtmalcekbhnkfgaaE7
import Derived.Lib.SmallJoins
namespace Go.Proofs.Ytmalcekbhnkfgaa
open Go.RowKit Go.Maps Go.ChangeShapes Go.WideShapes Go.Deep Go.Joins
set_option linter.unusedVariables false
set_option linter.unusedSimpArgs false

section
variable {H : Type} {enc : TypeId × Value → H} {w : World} {base : Nat} {spare : Nat → Bool} {held : Bool} {r : Reach} {b0 : Nat}
theorem open_none24 {fuel : Nat} {A : Option Addr} {n c : Nat} {y : DataW H × List MemPlace} (h : DataW.trod enc Try.prog w base spare held fuel 24 [.slice A n c] = some y) : A = none → c = 0 := by
  intro hA
  rcases open_slice und24 h with ⟨h0, _⟩ | ⟨a', len, cap, m, k, D, PP, h0, _⟩
  · simp at h0
    exact h0.2.2
  · simp at h0
    rw [hA] at h0
    cases h0.1
set_option maxRecDepth 100000 in
theorem open_okA {A : Option Addr} {c : Nat} {l : List Pt} {d : DataW H} {ps : List MemPlace} (hr : RdP w w.heap.size A l) (h : DataW.Trod enc Try.prog w base spare held 22 (.slice A l.length c) d ps) :
    (A = none → c = 0) ∧ okA l := by
  obtain ⟨fuel, hf⟩ := h
  rcases open_slice und22 hf with ⟨h0, _⟩ | ⟨a', len', cap', m, n, D, PP, h0, hb, hl, hm, hmm, _, hx⟩
  · simp [Value.cells] at h0
    obtain ⟨h1, h2, h3⟩ := h0
    refine ⟨fun _ => h3, fun p hp => ?_⟩
    rw [h2] at hp
    cases hp
  · simp [Value.cells] at h0
    obtain ⟨h1, h2, h3⟩ := h0
    subst h1
    refine ⟨(fun h => by cases h), fun p hp => ?_⟩
    have hlm : len' ≤ m := by rw [hmm]; split <;> omega
    obtain ⟨i, hi, rfl⟩ := List.mem_iff_getElem.1 hp
    obtain ⟨cs', g1, g2⟩ := hx i (by omega)
    rw [c26] at g1
    obtain ⟨_, hlen, hcell⟩ := World.cells?_some g1
    obtain ⟨xs, k, hk, hxy, _, hxl, hf⟩ := DataW.trod_struct Try.underlying26 g2
    match xs, hxl, cs', hlen with
    | [y0, y1], _, [v0, v1], _ =>
      have q1 := hf 1 _ rfl
      simp [c23, c24] at q1
      have u1 := hcell 1 (by omega)
      rw [add_add] at u1
      obtain ⟨b, off, e, _, _, hc⟩ := hr.1 (by omega)
      cases e
      obtain ⟨_, d1⟩ := hc i hi
      have hv : v1 = .slice (l.getD i zeroP).A (l.getD i zeroP).fs.length (l.getD i zeroP).c := by
        have u2 : w.cell? ⟨b, off + i * 2 + 1, none⟩ = some v1 := by simpa [Addr.add, Nat.add_assoc] using u1
        rw [d1] at u2
        exact (Option.some.inj u2).symm
      rw [hv] at q1
      have := open_none24 q1
      rw [getP hi] at this
      exact this
theorem open_points2 {v : Value} {d : DataW H} {ps : List MemPlace} (hv : Value.okWide Try.prog w r b0 22 v) (h : DataW.Trod enc Try.prog w base spare held 22 v d ps) :
    ∃ A c l, v = .slice A (List.length (α := Pt) l) c ∧ RdP w w.heap.size A l ∧ l.length ≤ c ∧ l.length ≤ maxLen ∧ (A = none → c = 0) ∧ okA l := by
  obtain ⟨A, c, l, rfl, h1, h2, h3⟩ := open_points hv h
  obtain ⟨h4, h5⟩ := open_okA h1 h
  exact ⟨A, c, l, rfl, h1, h2, h3, h4, h5⟩
set_option maxRecDepth 100000 in
theorem open_point {v : Value} {d : DataW H} {ps : List MemPlace} (hv : Value.okWide Try.prog w r b0 26 v) (h : DataW.Trod enc Try.prog w base spare held 26 v d ps) :
    ∃ q : Pt, v = ptV q ∧ RdS w w.heap.size q.A q.fs ∧ q.fs.length ≤ q.c ∧ (q.A = none → q.c = 0) := by
  obtain ⟨c0, c1, y0, y1, m, rfl, _, _, g0, g1⟩ := open_agg2 Try.underlying26 (by kernel_rfl) (by kernel_rfl) hv h
  obtain ⟨n0, e0, _, f0⟩ := DataW.trod_int Try.underlying23 g0
  obtain ⟨A', c', l', e1, r1, r2⟩ := open_shares g1
  simp at e0 e1
  subst e0 e1
  exact ⟨⟨n0, l', A', c'⟩, rfl, r1, r2, open_none24 g1⟩
end

theorem sameP_symm {L l : List Pt} (h : sameP L l) : sameP l L := ⟨h.1.symm, fun i hi => ⟨(h.2 i (by rw [← h.1]; exact hi)).1.symm, (h.2 i (by rw [← h.1]; exact hi)).2.symm⟩⟩
theorem sameP_refl (l : List Pt) : sameP l l := ⟨rfl, fun i _ => ⟨rfl, rfl⟩⟩
theorem sameP_trans {a b c : List Pt} (h : sameP a b) (k : sameP b c) : sameP a c :=
  ⟨h.1.trans k.1, fun i hi => ⟨(h.2 i (by rw [k.1]; exact hi)).1.trans (k.2 i hi).1, (h.2 i (by rw [k.1]; exact hi)).2.trans (k.2 i hi).2⟩⟩
theorem sameP_cons {p q : Pt} {L l : List Pt} (h : sameP (p :: L) (q :: l)) : p.id = q.id ∧ p.fs = q.fs ∧ sameP L l := by
  have h0 := h.2 0 (by simp)
  refine ⟨h0.1, h0.2, by simpa using h.1, fun i hi => ?_⟩
  have := h.2 (i + 1) (by simpa using hi)
  simpa using this
theorem sameP_snoc {p q : Pt} {L l : List Pt} (h : sameP L l) (h1 : p.id = q.id) (h2 : p.fs = q.fs) : sameP (L ++ [p]) (l ++ [q]) := by
  refine ⟨by simp [h.1], fun i hi => ?_⟩
  rw [List.length_append, List.length_singleton] at hi
  by_cases hil : i < l.length
  · have hiL : i < L.length := by rw [h.1]; exact hil
    rw [getP (show i < (L ++ [p]).length by simp; omega), getP (show i < (l ++ [q]).length by simp; omega), List.getElem_append_left hiL, List.getElem_append_left hil, ← getP hiL, ← getP hil]
    exact h.2 i hil
  · have hie : i = l.length := by omega
    have hlL := h.1
    rw [getP (show i < (L ++ [p]).length by simp; omega), getP (show i < (l ++ [q]).length by simp; omega), List.getElem_append_right (by omega), List.getElem_append_right (by omega)]
    simp [h1, h2]
theorem sameP_mem {L l : List Pt} (h : sameP L l) {p : Pt} (hp : p ∈ L) : ∃ q ∈ l, p.id = q.id ∧ p.fs = q.fs := by
  obtain ⟨i, hi, rfl⟩ := List.mem_iff_getElem.1 hp
  have hil : i < l.length := by rw [← h.1]; exact hi
  have := h.2 i hil
  rw [getP hi, getP hil] at this
  exact ⟨_, List.getElem_mem hil, this⟩
theorem flat_same {L l : List Pt} (h : sameP L l) (k : Nat) : flat k L = flat k l := by
  induction L generalizing l k with
  | nil =>
    cases l with
    | nil => rfl
    | cons q l => have := h.1; simp at this
  | cons p L ih =>
    cases l with
    | nil => have := h.1; simp at this
    | cons q l =>
      obtain ⟨_, h2, h3⟩ := sameP_cons h
      simp only [flat, h2, ih h3]
theorem allF_same {L l : List Pt} (h : sameP L l) : allF L = allF l := by unfold allF; rw [flat_same h]
theorem may_same {p q : Pt} (h1 : p.id = q.id) (h2 : p.fs = q.fs) : mayP p ↔ mayP q := by unfold mayP; rw [h1, h2]
theorem ids_same {L l : List Pt} (h : sameP L l) : L.map Pt.id = l.map Pt.id := by
  induction L generalizing l with
  | nil =>
    cases l with
    | nil => rfl
    | cons q l => have := h.1; simp at this
  | cons p L ih =>
    cases l with
    | nil => have := h.1; simp at this
    | cons q l =>
      obtain ⟨h1, _, h3⟩ := sameP_cons h
      simp only [List.map_cons, h1, ih h3]
theorem idsUp_map (l : List Pt) : idsUp l ↔ (l.map Pt.id).Pairwise (· < ·) := by unfold idsUp; rw [List.pairwise_map]
theorem right_same1 {L l : List Pt} (h : sameP L l) (hr : RightP l) : RightP L := by
  refine ⟨by rw [h.1]; exact hr.1, fun p hp => ?_, ?_, by rw [allF_same h]; exact hr.2.2.2⟩
  · obtain ⟨q, hq, e1, e2⟩ := sameP_mem h hp
    exact (may_same e1 e2).2 (hr.2.1 q hq)
  · rw [idsUp_map, ids_same h, ← idsUp_map]
    exact hr.2.2.1
theorem right_same {L l : List Pt} (h : sameP L l) : RightP L ↔ RightP l := ⟨right_same1 (sameP_symm h), right_same1 h⟩
theorem rightB_same {L l : List Pt} (h : sameP L l) : rightB L = rightB l := by
  by_cases hr : RightP l
  · rw [rightB_t hr, rightB_t ((right_same h).2 hr)]
  · rw [rightB_f hr, rightB_f (fun e => hr ((right_same h).1 e))]
theorem addG_same {L l : List Pt} {p q : Pt} (h : sameP L l) (h2 : p.fs = q.fs) : addG L p = addG l q := by unfold addG; rw [allF_same h, h2, h.1]
theorem comes_same {L l : List Pt} {p q : Pt} (h : sameP L l) (h1 : p.id = q.id) (h2 : p.fs = q.fs) : comes L p ↔ comes l q := by
  unfold comes
  rw [right_same h, may_same h1 h2, h.1, h1]
  refine and_congr Iff.rfl (and_congr Iff.rfl (forall_congr' fun h0 => ?_))
  rw [(h.2 (l.length - 1) (by omega)).1]
theorem addE_same {L l : List Pt} {p q : Pt} (h : sameP L l) (h1 : p.id = q.id) (h2 : p.fs = q.fs) : addE L p = addE l q := by
  by_cases hc : comes l q
  · rw [addE_t hc, addE_t ((comes_same h h1 h2).2 hc), addG_same h h2]
  · rw [addE_f hc, addE_f (fun e => hc ((comes_same h h1 h2).1 e))]
/-- What ref.Add answers. -/
def RAddPost (w : World) (l : List Pt) (p : Pt) (e : Ending) (w' : World) : Prop :=
  ∃ v, e = .returned (.tuple #[v, .int .i64 (addE l p)]) ∧ (addE l p ≠ 0 → v = .slice none 0 0) ∧ (addE l p = 0 → ∃ A' c', v = .slice A' (l.length + 1) c' ∧ RdP w' w'.heap.size A' (l ++ [p])) ∧ Below w.heap.size w w'
theorem radd_any (A : Option Addr) (c : Nat) (l : List Pt) (p : Pt) (w : World) (hA : RdP w w.heap.size A l) (hpr : RdS w w.heap.size p.A p.fs) (hpc : p.fs.length ≤ p.c) (hnone : A = none → c = 0) :
    Calls Try.prog 14 #[.slice A l.length c, ptV p] w (RAddPost w l p) := by
  have bad : ¬ comes l p → ∀ e w', e = .returned (.tuple #[.slice none 0 0, .int .i64 2]) ∧ Below w.heap.size w w' → RAddPost w l p e w' := by
    rintro h e w' ⟨rfl, hb⟩
    exact ⟨_, by rw [addE_f h], fun _ => rfl, fun h0 => by rw [addE_f h] at h0; omega, hb⟩
  have good : comes l p → ∀ e w', (∃ v, e = .returned (.tuple #[v, .int .i64 (addG l p)]) ∧ (addG l p ≠ 0 → v = .slice none 0 0) ∧ (addG l p = 0 → ∃ A' c', v = .slice A' (l.length + 1) c' ∧ RdP w' w'.heap.size A' (l ++ [p])) ∧ Below w.heap.size w w') → RAddPost w l p e w' := by
    rintro h e w' h1
    unfold RAddPost
    rw [addE_t h]
    exact h1
  by_cases hr : RightP l
  · by_cases hp : mayP p
    · by_cases h0 : l.length = 0
      · exact (radd_good0 A l.length c l p w rfl hA hr hp hpr hpc hnone h0).mono (good ⟨hr, hp, fun h => by omega⟩)
      · by_cases hi : (l.getD (l.length - 1) zeroP).id < p.id
        · exact (radd_goodN A l.length c l p w rfl hA hr hp hpr hpc hnone (by omega) hi).mono (good ⟨hr, hp, fun _ => hi⟩)
        · exact (radd_arg A l.length c l p w rfl hA hr hp hpr (by omega) (by omega)).mono (bad (fun h => hi (h.2.2 (by omega))))
    · exact (radd_maynot A l.length c l p w rfl hA hr hp hpr).mono (bad (fun h => hp h.2.1))
  · exact (radd_wrong A l.length c l p w rfl hA hr).mono (bad (fun h => hr h.1))
end Go.Proofs.Ytmalcekbhnkfgaa
