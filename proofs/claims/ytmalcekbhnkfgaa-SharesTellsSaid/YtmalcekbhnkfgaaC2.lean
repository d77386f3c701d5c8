/- Plain facts on what is known of a table. Conditions: as each theorem states them. -/
import Derived.Test.YtmalcekbhnkfgaaB9
import Derived.Deep.SlicePairs
import Derived.ProofKit
import Derived.OpenShut
namespace Go.Proofs.Ytmalcekbhnkfgaa
open Go.RowKit Go.Maps Go.Shelf
set_option linter.unusedVariables false
set_option linter.unusedSimpArgs false

theorem snoc_ind {α : Type} {P : List α → Prop} (h0 : P []) (hs : ∀ l x, P l → P (l ++ [x])) (l : List α) : P l := by
  have h : ∀ m : List α, P m.reverse := fun m => by
    induction m with
    | nil => simpa using h0
    | cons x m ih => rw [List.reverse_cons]; exact hs _ _ ih
  simpa using h l.reverse
theorem kn_mem {t s m : Int} {f : Sh} (l : List Sh) : kn t s m l = (f, true) → f ∈ l ∧ isK t s m f := by
  refine snoc_ind (P := fun l => kn t s m l = (f, true) → f ∈ l ∧ isK t s m f) ?_ ?_ l
  · intro h
    rw [kn_nil] at h
    simp at h
  · intro l g ih h
    by_cases hg : isK t s m g
    · rw [kn_yes hg] at h
      simp only [Prod.mk.injEq, and_true] at h
      subst h
      exact ⟨by simp, hg⟩
    · rw [kn_no hg] at h
      exact ⟨List.mem_append_left _ (ih h).1, (ih h).2⟩
theorem nodup_eq {l : List Sh} (h : (l.map Sh.tb).Nodup) {f g : Sh} (hf : f ∈ l) (hg : g ∈ l) (e : f.tb = g.tb) : f = g := by
  induction l with
  | nil => simp at hf
  | cons a l ih =>
    simp only [List.map_cons, List.nodup_cons] at h
    rcases List.mem_cons.1 hf with h1 | h1
    · rcases List.mem_cons.1 hg with h2 | h2
      · rw [h1, h2]
      · exact absurd (List.mem_map.2 ⟨g, h2, by rw [← e, h1]⟩) h.1
    · rcases List.mem_cons.1 hg with h2 | h2
      · exact absurd (List.mem_map.2 ⟨f, h1, by rw [e, h2]⟩) h.1
      · exact ih h.2 h1 h2
theorem kn_last {l1 : List Sh} {f : Sh} (l2 : List Sh) : (l2.map Sh.tb).Nodup → f ∈ l2 → kn f.tb f.sz f.sm (l1 ++ l2) = (f, true) := by
  refine snoc_ind (P := fun l2 => (l2.map Sh.tb).Nodup → f ∈ l2 → kn f.tb f.sz f.sm (l1 ++ l2) = (f, true)) ?_ ?_ l2
  · simp
  · intro l g ih h hf
    rw [← List.append_assoc]
    by_cases hg : isK f.tb f.sz f.sm g
    · rw [kn_yes hg, nodup_eq h (by simp) hf hg.1]
    · rw [kn_no hg]
      have hfl : f ∈ l := by
        rcases List.mem_append.1 hf with h1 | h1
        · exact h1
        · rw [List.mem_singleton.1 h1] at hg
          exact absurd ⟨rfl, rfl, rfl⟩ hg
      refine ih ?_ hfl
      rw [List.map_append] at h
      exact (List.nodup_append.1 h).1
theorem knownL_yes {l : List Pt} {t s m : Int} {f : Sh} (h : knownL l t s m = (f, true)) : RightP l ∧ f ∈ allF l ∧ isK t s m f := by
  unfold knownL at h
  split at h
  · rename_i hr
    exact ⟨hr, kn_mem _ h⟩
  · simp at h
theorem allF_last {l : List Pt} {n : Nat} (hl : l.length = n + 1) : allF l = allF (l.take n) ++ (l.getD n zeroP).fs := by
  unfold allF
  conv => lhs; rw [← List.take_length (l := l), hl, take_snocP (by omega), flat_append]
  simp [flat, Function.comp_def]
theorem known_last {l : List Pt} {n : Nat} (hl : l.length = n + 1) (hr : RightP l) {f : Sh} (hf : f ∈ (l.getD n zeroP).fs) : knownL l f.tb f.sz f.sm = (f, true) := by
  unfold knownL
  rw [if_pos hr, allF_last hl]
  exact kn_last _ ((hr.2.1 _ (getP_mem (by omega))).2.2.2.1) hf
theorem sh_parts4 {f g : Sh} (h : ¬ f = g) : ¬ f.tb = g.tb ∨ (f.tb = g.tb ∧ ¬ f.sz = g.sz) ∨ (f.tb = g.tb ∧ f.sz = g.sz ∧ ¬ f.sm = g.sm) ∨ (f.tb = g.tb ∧ f.sz = g.sz ∧ f.sm = g.sm ∧ ¬ f.nm = g.nm) := by
  by_cases h1 : f.tb = g.tb
  · by_cases h2 : f.sz = g.sz
    · by_cases h3 : f.sm = g.sm
      · by_cases h4 : f.nm = g.nm
        · refine absurd ?_ h
          obtain ⟨a, b, c, d, _, _, _, _⟩ := f
          obtain ⟨a', b', c', d', _, _, _, _⟩ := g
          dsimp only at *
          subst h1 h2 h3 h4
          rfl
        · exact .inr (.inr (.inr ⟨h1, h2, h3, h4⟩))
      · exact .inr (.inr (.inl ⟨h1, h2, h3⟩))
    · exact .inr (.inl ⟨h1, h2⟩)
  · exact .inl h1
end Go.Proofs.Ytmalcekbhnkfgaa
namespace Go.Proofs.Ytmalcekbhnkfgaa
open Go.RowKit Go.Maps Go.ChangeShapes Go.WideShapes Go.Deep
set_option linter.unusedVariables false
set_option linter.unusedSimpArgs false

theorem und22 : Try.prog.underlying 22 = some (.slice 26) := by kernel_rfl
theorem und24 : Try.prog.underlying 24 = some (.slice 36) := by kernel_rfl
theorem c26 : Try.prog.cellsOf 26 = 2 := by kernel_rfl
theorem c36 : Try.prog.cellsOf 36 = 4 := by kernel_rfl
theorem c24 : Try.prog.cellsOf 24 = 1 := by kernel_rfl
theorem c23 : Try.prog.cellsOf 23 = 1 := by kernel_rfl
theorem c3 : Try.prog.cellsOf 3 = 1 := by kernel_rfl
theorem c34 : Try.prog.cellsOf 34 = 1 := by kernel_rfl
section
variable {H : Type} {enc : TypeId × Value → H} {w : World} {base : Nat} {spare : Nat → Bool} {held : Bool} {r : Reach} {b0 : Nat}
set_option maxRecDepth 100000 in
theorem open_shares {fuel : Nat} {cs : List Value} {y : DataW H × List MemPlace} (h : DataW.trod enc Try.prog w base spare held fuel 24 cs = some y) :
    ∃ A c l, cs = [.slice A (List.length (α := Sh) l) c] ∧ RdS w w.heap.size A l ∧ l.length ≤ c := by
  rcases open_slice und24 h with ⟨h0, _⟩ | ⟨a', len, cap, m, n, D, PP, h0, hb, hl, hm, hmm, _, hx⟩
  · exact ⟨none, 0, [], h0, fun h => by simp at h, by simp⟩
  · have hlm : len ≤ m := by rw [hmm]; split <;> omega
    have each : ∀ i, i < len → ∃ q : Sh, w.cell? (a'.add (i * 4)) = some (.int .u64 q.tb) ∧ w.cell? (a'.add (i * 4 + 1)) = some (.int .i64 q.sz) ∧ w.cell? (a'.add (i * 4 + 2)) = some (.int .u32 q.sm) ∧ w.cell? (a'.add (i * 4 + 3)) = some (.int .u64 q.nm) := by
      intro i hi
      obtain ⟨cs', h1, h2⟩ := hx i (by omega)
      rw [c36] at h1
      obtain ⟨_, hlen, hcell⟩ := World.cells?_some h1
      obtain ⟨xs, k, hk, hxy, _, hxl, hf⟩ := DataW.trod_struct Try.underlying36 h2
      match xs, hxl, cs', hlen with
      | [y0, y1, y2, y3], _, [v0, v1, v2, v3], _ =>
        have g0 := hf 0 _ rfl
        have g1 := hf 1 _ rfl
        have g2 := hf 2 _ rfl
        have g3 := hf 3 _ rfl
        simp [c23, c3, c34] at g0 g1 g2 g3
        obtain ⟨n0, e0, _, f0⟩ := DataW.trod_int Try.underlying23 g0
        obtain ⟨n1, e1, _, f1⟩ := DataW.trod_int Try.underlying3 g1
        obtain ⟨n2, e2, _, f2⟩ := DataW.trod_int Try.underlying34 g2
        obtain ⟨n3, e3, _, f3⟩ := DataW.trod_int Try.underlying23 g3
        simp at e0 e1 e2 e3
        subst e0 e1 e2 e3
        have u0 := hcell 0 (by omega)
        have u1 := hcell 1 (by omega)
        have u2 := hcell 2 (by omega)
        have u3 := hcell 3 (by omega)
        rw [add_add] at u0 u1 u2 u3
        exact ⟨⟨n0, n1, n2, n3, f0, f1, f2, f3⟩, by simpa using u0, by simpa using u1, by simpa using u2, by simpa using u3⟩
    obtain ⟨q, hq⟩ := choose_lt each
    have hlen : ((List.range len).map q).length = len := by simp
    refine ⟨some a', cap, (List.range len).map q, by rw [hlen]; exact h0, fun hn => ?_, by rw [hlen]; exact hl⟩
    rw [hlen] at hn ⊢
    obtain ⟨q0, _⟩ := hq 0 hn
    have hs := World.cell?_spot q0
    obtain ⟨b, off, sp⟩ := a'
    have hs : sp = none := by simpa [Addr.add] using hs
    subst hs
    refine ⟨b, off, rfl, ?_, Nat.le_refl _, fun i hi => ?_⟩
    · simp only [Addr.add_lit] at q0
      by_cases hlt : b < w.heap.size
      · exact hlt
      · have : w.heap[b]? = none := by simp; omega
        simp [World.cell?, this] at q0
    · obtain ⟨q1, q2, q3, q4⟩ := hq i hi
      rw [List.getD_eq_getElem?_getD, List.getElem?_map, List.getElem?_range hi]
      simp only [Addr.add_lit] at q1 q2 q3 q4
      exact ⟨q1, q2, q3, q4⟩
set_option maxRecDepth 100000 in
theorem open_points {v : Value} {d : DataW H} {ps : List MemPlace} (hv : Value.okWide Try.prog w r b0 22 v) (h : DataW.Trod enc Try.prog w base spare held 22 v d ps) :
    ∃ A c l, v = .slice A (List.length (α := Pt) l) c ∧ RdP w w.heap.size A l ∧ l.length ≤ c ∧ l.length ≤ maxLen := by
  obtain ⟨a, len, cap, rfl⟩ := okWide_slice und22 hv
  obtain ⟨fuel, hf⟩ := h
  rcases open_slice und22 hf with ⟨h0, _⟩ | ⟨a', len', cap', m, n, D, PP, h0, hb, hl, hm, hmm, _, hx⟩
  · simp [Value.cells] at h0
    obtain ⟨rfl, rfl, rfl⟩ := h0
    exact ⟨none, 0, [], rfl, ⟨fun h => by simp at h, by simp⟩, by simp, by simp⟩
  · simp [Value.cells] at h0
    obtain ⟨rfl, rfl, rfl⟩ := h0
    have hlm : len ≤ m := by rw [hmm]; split <;> omega
    have each : ∀ i, i < len → ∃ q : Pt, w.cell? (a'.add (i * 2)) = some (.int .u64 q.id) ∧ w.cell? (a'.add (i * 2 + 1)) = some (.slice q.A q.fs.length q.c) ∧ RdS w w.heap.size q.A q.fs ∧ q.fs.length ≤ q.c := by
      intro i hi
      obtain ⟨cs', h1, h2⟩ := hx i (by omega)
      rw [c26] at h1
      obtain ⟨_, hlen, hcell⟩ := World.cells?_some h1
      obtain ⟨xs, k, hk, hxy, _, hxl, hf⟩ := DataW.trod_struct Try.underlying26 h2
      match xs, hxl, cs', hlen with
      | [y0, y1], _, [v0, v1], _ =>
        have g0 := hf 0 _ rfl
        have g1 := hf 1 _ rfl
        simp [c23, c24] at g0 g1
        obtain ⟨n0, e0, _, f0⟩ := DataW.trod_int Try.underlying23 g0
        obtain ⟨A', c', l', e1, r1, r2⟩ := open_shares g1
        simp at e0 e1
        subst e0 e1
        have u0 := hcell 0 (by omega)
        have u1 := hcell 1 (by omega)
        rw [add_add] at u0 u1
        exact ⟨⟨n0, l', A', c'⟩, by simpa using u0, by simpa using u1, r1, r2⟩
    obtain ⟨q, hq⟩ := choose_lt each
    have hlen : ((List.range len).map q).length = len := by simp
    refine ⟨some a', cap, (List.range len).map q, by rw [hlen], ⟨fun hn => ?_, fun p hp => ?_⟩, by rw [hlen]; exact hl, by rw [hlen]; omega⟩
    · rw [hlen] at hn ⊢
      obtain ⟨q0, _⟩ := hq 0 hn
      have hs := World.cell?_spot q0
      obtain ⟨b, off, sp⟩ := a'
      have hs : sp = none := by simpa [Addr.add] using hs
      subst hs
      refine ⟨b, off, rfl, ?_, Nat.le_refl _, fun i hi => ?_⟩
      · simp only [Addr.add_lit] at q0
        by_cases hlt : b < w.heap.size
        · exact hlt
        · have : w.heap[b]? = none := by simp; omega
          simp [World.cell?, this] at q0
      · obtain ⟨q1, q2, _, _⟩ := hq i hi
        rw [List.getD_eq_getElem?_getD, List.getElem?_map, List.getElem?_range hi]
        simp only [Addr.add_lit] at q1 q2
        exact ⟨q1, q2⟩
    · obtain ⟨i, hi, rfl⟩ := List.mem_map.1 hp
      obtain ⟨_, _, q3, q4⟩ := hq i (List.mem_range.1 hi)
      exact ⟨q3, q4⟩
end
end Go.Proofs.Ytmalcekbhnkfgaa
