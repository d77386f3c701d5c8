/- Contract of shares.Counts of no number; openings of lists of numbers. Conditions: as each theorem states them. -/
import Derived.Test.YtmalcekbhnkfgaaF7
namespace Go.Proofs.Ytmalcekbhnkfgaa
open Go.RowKit Go.Maps Go.Shelf
set_option linter.unusedVariables false
set_option linter.unusedSimpArgs false

set_option maxRecDepth 100000 in
set_option maxHeartbeats 4000000 in
theorem counts_none (A : Option Addr) (c : Nat) (l : List Pt) (w : World) (hA : RdP w w.heap.size A l) (hL : cntL l = []) :
    Calls Try.prog 19 #[.slice A l.length c] w fun e w' => e = .returned (.slice none 0 0) ∧ Below w.heap.size w w' := by
  have HC := Lib.hid (counted_any A c l w hA)
  rw [hL] at HC
  generalize l.length = n at *
  clear hA hL
  go_enter Try.func19, Try.ntmps19
  go_wp2_with (fail)
  refine HC.out.mono ?_
  rintro e w1 ⟨rfl, hc1, hb1⟩
  have HC1 := Lib.hid hc1
  have HB1 := Lib.hid hb1
  have hs1 := hb1.size
  have hm1 := hc1.lt
  clear hc1 hb1
  go_wp2_with (go_at_call 38; refine (callsIn_wide.1 (keys_in Fence.wide 5 trivial rfl _ _)).mono ?_; rintro e w' ⟨rfl, rfl⟩)
  have hbW : Below w1.heap.size w1 (w1.alloc (Obj.cells #[Value.map (some w.heap.size)] 62)) := bl_alloc (Below.refl _ _) _
  have bM := Boxed.new w1 62 (.map (some w.heap.size))
  have hsW : (w1.alloc (Obj.cells #[Value.map (some w.heap.size)] 62)).heap.size = w1.heap.size + 1 := by simp
  generalize (w1.alloc (Obj.cells #[Value.map (some w.heap.size)] 62)) = w2 at *
  have hc2 := HC1.out.below hbW hm1
  obtain ⟨D, hown, hkey⟩ := keysL_cnt hc2
  have hlen0 : ∀ ys, KeysL D ys → ys.length = 0 := fun ys hy => by
    obtain ⟨k1, k2⟩ := hkey ys hy
    cases ys with
    | nil => rfl
    | cons y ys => exact absurd ((k2 y).1 (by simp)) (by simp)
  have HS := Lib.hid (sorted_none w1.heap.size w.heap.size ([] : List Int).length D w2 (by omega) bM.cell hown (by have h1 := hown.size_le; simp at h1; omega) hlen0)
  have HB2 := Lib.hid (HB1.out.trans (hbW.mono hs1))
  clear bM hown hkey hc2 hbW hlen0
  refine HS.out.mono ?_
  rintro e w3 ⟨A3, cap, rfl, hb3⟩
  have HB3 := Lib.hid (HB2.out.trans (hb3.mono (by omega)))
  clear hb3
  go_wp2_with (fail)
  go_loopw [4, 13] (fun vo vi wr => vo = .slice none 0 0 ∧ vi = .int .i64 0 ∧ w3 = wr) (fun _ _ _ => 0)
  case atStart => exact ⟨rfl, rfl, rfl⟩
  case round =>
    obtain ⟨rfl, rfl, rfl⟩ := hrel
    go_wp2_with (fail)
    go_ret
    exact ⟨rfl, HB3.out⟩
theorem cntL_nil : cntL [] = [] := by unfold cntL; split <;> rfl
theorem notIn_nil (ss : List Int) : notIn [] ss = ss := by simp [notIn]
theorem right_drop {l : List Pt} (h : RightP l) (id : Int) : RightP (dropL l id) := by
  have hs : (dropL l id).Sublist l := List.filter_sublist
  refine ⟨Nat.le_trans hs.length_le h.1, fun p hp => h.2.1 p (hs.subset hp), h.2.2.1.sublist hs, fun f hf g hg e => ?_⟩
  obtain ⟨p, hp, hfp⟩ := mem_allF.1 hf
  obtain ⟨q, hq, hgq⟩ := mem_allF.1 hg
  exact h.2.2.2 f (mem_allF.2 ⟨p, hs.subset hp, hfp⟩) g (mem_allF.2 ⟨q, hs.subset hq, hgq⟩) e
theorem dropL_one {l : List Pt} {i : Nat} (h : RightP l) (hi : i < l.length) : (dropL l (l.getD i zeroP).id).length + 1 = l.length := by
  rw [← drop_split h.2.2.1 hi rfl, List.length_append, List.length_take, List.length_drop]
  omega
/-- From the address A on the whole numbers l stand. -/
def RdN (w : World) (A : Option Addr) (l : List Int) : Prop := 0 < l.length → ∃ b off, A = some ⟨b, off, none⟩ ∧ b < w.heap.size ∧ ∀ i, i < l.length → w.cell? ⟨b, off + i, none⟩ = some (.int .i64 (l.getD i 0))
end Go.Proofs.Ytmalcekbhnkfgaa
namespace Go.Proofs.Ytmalcekbhnkfgaa
open Go.RowKit Go.Maps Go.ChangeShapes Go.WideShapes Go.Deep Go.Joins
set_option linter.unusedVariables false
set_option linter.unusedSimpArgs false

theorem und52 : Try.prog.underlying 52 = some (.slice 3) := by kernel_rfl
theorem und38 : Try.prog.underlying 38 = some (.slice 23) := by kernel_rfl
section
variable {H : Type} {enc : TypeId × Value → H} {w : World} {base : Nat} {spare : Nat → Bool} {held : Bool} {r : Reach} {b0 : Nat}
set_option maxRecDepth 100000 in
theorem open_nums {t e : TypeId} {k : IntKind} (ht : Try.prog.underlying t = some (.slice e)) (he : Try.prog.underlying e = some (.int k)) (hc1 : Try.prog.cellsOf e = 1) {v : Value} {d : DataW H} {ps : List MemPlace} (hv : Value.okWide Try.prog w r b0 t v) (h : DataW.Trod enc Try.prog w base spare held t v d ps) :
    ∃ A c l, v = .slice A (List.length (α := Int) l) c ∧ (0 < l.length → ∃ b off, A = some ⟨b, off, none⟩ ∧ b < w.heap.size ∧ ∀ i, i < l.length → w.cell? ⟨b, off + i, none⟩ = some (.int k (l.getD i 0))) ∧ (∀ x ∈ l, (Lit.int k x).wf = true) ∧ l.length ≤ c ∧ l.length ≤ maxLen := by
  obtain ⟨a, len, cap, rfl⟩ := okWide_slice ht hv
  obtain ⟨fuel, hf⟩ := h
  rcases open_slice ht hf with ⟨h0, _⟩ | ⟨a', len', cap', m, n, D, PP, h0, hb, hl, hm, hmm, _, hx⟩
  · simp [Value.cells] at h0
    obtain ⟨rfl, rfl, rfl⟩ := h0
    exact ⟨none, 0, [], rfl, fun h => by simp at h, by simp, by simp, by simp⟩
  · simp [Value.cells] at h0
    obtain ⟨rfl, rfl, rfl⟩ := h0
    have hlm : len ≤ m := by rw [hmm]; split <;> omega
    have each : ∀ i, i < len → ∃ q : Int, w.cell? (a'.add i) = some (.int k q) ∧ (Lit.int k q).wf = true := by
      intro i hi
      obtain ⟨cs', h1, h2⟩ := hx i (by omega)
      rw [hc1] at h1
      obtain ⟨_, hlen, hcell⟩ := World.cells?_some h1
      match cs', hlen with
      | [v0], _ =>
        obtain ⟨n0, e0, _, f0⟩ := DataW.trod_int he h2
        simp at e0
        subst e0
        have u0 := hcell 0 (by omega)
        rw [add_add, Nat.add_zero] at u0
        exact ⟨n0, by simpa using u0, f0⟩
    obtain ⟨q, hq⟩ := choose_lt each
    have hlen : ((List.range len).map q).length = len := by simp
    refine ⟨some a', cap, (List.range len).map q, by rw [hlen], fun hn => ?_, fun x hx => ?_, by rw [hlen]; exact hl, by rw [hlen]; omega⟩
    · rw [hlen] at hn ⊢
      obtain ⟨q0, _⟩ := hq 0 hn
      have hs := World.cell?_spot q0
      obtain ⟨b, off, sp⟩ := a'
      have hs : sp = none := by simpa [Addr.add] using hs
      subst hs
      refine ⟨b, off, rfl, ?_, fun i hi => ?_⟩
      · simp only [Addr.add_lit] at q0
        by_cases hlt : b < w.heap.size
        · exact hlt
        · have : w.heap[b]? = none := by simp; omega
          simp [World.cell?, this] at q0
      · obtain ⟨q1, _⟩ := hq i hi
        rw [List.getD_eq_getElem?_getD, List.getElem?_map, List.getElem?_range hi]
        simp only [Addr.add_lit] at q1
        exact q1
    · obtain ⟨i, hi, rfl⟩ := List.mem_map.1 hx
      exact (hq i (List.mem_range.1 hi)).2
theorem open_ints {v : Value} {d : DataW H} {ps : List MemPlace} (hv : Value.okWide Try.prog w r b0 52 v) (h : DataW.Trod enc Try.prog w base spare held 52 v d ps) :
    ∃ A c l, v = .slice A (List.length (α := Int) l) c ∧ RdN w A l ∧ (∀ x ∈ l, (Lit.int .i64 x).wf = true) ∧ l.length ≤ c ∧ l.length ≤ maxLen := open_nums und52 u3 c3 hv h
theorem open_u64s {v : Value} {d : DataW H} {ps : List MemPlace} (hv : Value.okWide Try.prog w r b0 38 v) (h : DataW.Trod enc Try.prog w base spare held 38 v d ps) :
    ∃ A c l, v = .slice A (List.length (α := Int) l) c ∧ RdI w w.heap.size A l ∧ l.length ≤ c ∧ l.length ≤ maxLen := by
  obtain ⟨A, c, l, rfl, h1, h2, h3, h4⟩ := open_nums und38 u23 c23 hv h
  refine ⟨A, c, l, rfl, ⟨fun hl => ?_, h2⟩, h3, h4⟩
  obtain ⟨b, off, e, hb, hc⟩ := h1 hl
  exact ⟨b, off, e, hb, Nat.le_refl _, hc⟩
end
end Go.Proofs.Ytmalcekbhnkfgaa
