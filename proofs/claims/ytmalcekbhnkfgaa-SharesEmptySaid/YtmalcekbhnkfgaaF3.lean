/- Contract of slices.Delete at points. Conditions: as each theorem states them. -/
import Derived.Test.YtmalcekbhnkfgaaD2
import Derived.OwnWalk
import Derived.Laws.IdiomCopy
namespace Go.Proofs.Ytmalcekbhnkfgaa
open Go.RowKit Go.Maps
set_option linter.unusedVariables false
set_option linter.unusedSimpArgs false

theorem step_fits {ops : Array Oper} {o : Oper} {a : Act} {K : Act → World → Prop} {Q : Exit → Act → World → Prop} {E : Prop} (w : World) (hgd : o.guard = none) (s x : Operand)
    (ho : o.op = .call { callee := .builtin .append, args := #[s, x], argTypes := #[22, 22] }) (base g k cap : Nat) (xs : List Pt) (hs : a.eval s = .slice (some ⟨g, 0, none⟩) k cap) (hown : w.ownsRow base 26 2 (.slice (some ⟨g, 0, none⟩) k cap) k (pcells xs))
    (ad : Addr) (m c : Nat) (l : List Pt) (hm : l.length = m) (hx : a.eval x = .slice (some ad) m c) (hr : ∀ j u, (pcells l)[j]? = some u → w.cell? (ad.add j) = some u) (hn : k + m ≤ cap)
    (h : ∀ w', w'.ownsRow base 26 2 (.slice (some ⟨g, 0, none⟩) (k + m) cap) (k + m) (pcells (xs ++ l)) → w.grownBy w' (some g) → K (a.put o.dst (.slice (some ⟨g, 0, none⟩) (k + m) cap)) w') :
    if Region.wanted o (yielded ops a.tmps) = true then Oper.wp Try.prog o a w K Q else E := by
  have hw : Region.wanted o (yielded ops a.tmps) = true := by simp [Region.wanted, hgd]
  rw [if_pos hw]
  obtain ⟨i0, hi, hz0, hz1, hz2⟩ := info_parts i26
  obtain ⟨w', hrun, r1, r2⟩ := run_append_fits (P := Try.prog) w base 22 o.type 26 i0 2 und22' hi hz1 g k cap (pcells xs) hown ad m c (pcells l) (by rw [pcells_length, hm]) hr (pcells_one l) hn
  unfold Oper.wp
  simp [execOp, ho, resolve, invoke, builtin, hs, hx, hrun, Result.andThen]
  exact h w' (by rw [pcells_append]; exact r1) r2
theorem own_tail {w : World} {B g k cap : Nat} {xs : List Value} (h : w.ownsRow B 26 2 (.slice (some ⟨g, 0, none⟩) k cap) k xs) {j : Nat} (hj : j < cap * 2) : ∃ u, w.cell? ⟨g, j, none⟩ = some u ∧ w.frozen? ⟨g, j, none⟩ = false := by
  rcases h.2 with ⟨e, _⟩ | ⟨g', c', cur, e, hb, hg, hnc, hcm, hs, ht⟩
  · cases e
  · cases e
    refine ⟨cur[j]'(by omega), ?_, by simp [World.frozen?, hg]⟩
    simp only [World.cell?, hg]
    simp [Array.getElem?_eq_getElem (show j < cur.size by omega)]
theorem own_set_tail {w : World} {B g k cap : Nat} {xs : List Value} (h : w.ownsRow B 26 2 (.slice (some ⟨g, 0, none⟩) k cap) k xs) {j : Nat} (hj : k * 2 ≤ j) (v : Value) : (w.setCell ⟨g, j, none⟩ v).ownsRow B 26 2 (.slice (some ⟨g, 0, none⟩) k cap) k xs := by
  refine ⟨h.1, ?_⟩
  rcases h.2 with ⟨e, _⟩ | ⟨g', c', cur, e, hb, hg, hnc, hcm, hs, ht⟩
  · cases e
  · cases e
    refine .inr ⟨g, cap, cur.setIfInBounds j v, rfl, hb, set_heap hg, hnc, hcm, by simpa using hs, ?_⟩
    rw [← ht]
    apply List.ext_getElem?
    intro i
    rw [List.getElem?_take, List.getElem?_take]
    split
    · rw [Array.toList_setIfInBounds, List.getElem?_set_ne (by omega)]
    · rfl
theorem own_take {w : World} {B g n cap i : Nat} {L : List Pt} (h : w.ownsRow B 26 2 (.slice (some ⟨g, 0, none⟩) n cap) n (pcells L)) (hL : L.length = n) (hi : i ≤ n) : w.ownsRow B 26 2 (.slice (some ⟨g, 0, none⟩) i cap) i (pcells (L.take i)) := by
  refine ⟨by rw [pcells_length, List.length_take, hL, Nat.min_eq_left hi], ?_⟩
  rcases h.2 with ⟨e, _⟩ | ⟨g', c', cur, e, hb, hg, hnc, hcm, hs, ht⟩
  · cases e
  · cases e
    refine .inr ⟨g, cap, cur, rfl, hb, hg, by omega, hcm, hs, ?_⟩
    have h1 : pcells L = pcells (L.take i) ++ pcells (L.drop i) := by rw [← pcells_append, List.take_append_drop]
    have h2 : (pcells (L.take i)).length = i * 2 := by rw [pcells_length, List.length_take, hL, Nat.min_eq_left hi]
    have h3 : cur.toList.take (i * 2) = (cur.toList.take (n * 2)).take (i * 2) := by rw [List.take_take, Nat.min_eq_left (by omega)]
    rw [h3, ht, h1, List.take_append_of_le_length (by omega), ← h2, List.take_length]
theorem run_clear2 (w : World) (ty : TypeId) (g o c : Nat) {u0 u1 : Value} (h0 : w.cell? ⟨g, o, none⟩ = some u0) (h1 : w.cell? ⟨g, o + 1, none⟩ = some u1) (f0 : w.frozen? ⟨g, o, none⟩ = false) (f1 : w.frozen? ⟨g, o + 1, none⟩ = false) :
    (Builtin.clear_ #[22] ty #[.slice (some ⟨g, o, none⟩) 1 c]).run Try.prog w = .ok (.tuple #[]) ((w.setCell ⟨g, o, none⟩ (.int .u64 0)).setCell ⟨g, o + 1, none⟩ (.slice none 0 0)) := by
  have hz : ∀ w, (zeroValue 26).run Try.prog w = .ok (.agg #[.int .u64 0, .slice none 0 0]) w := fun w => by kernel_rfl
  have hzc : (Builtin.zeroCells (Value.cells (.agg #[.int .u64 0, .slice none 0 0])) 1).toList = [.int .u64 0, .slice none 0 0] := by kernel_rfl
  have hst := run_storeCells_cells (P := Try.prog) g o [.int .u64 0, .slice none 0 0] 0 w
    (by intro j hj; match j, hj with | 0, _ => simp [h0] | 1, _ => simp [h1])
    (by intro j hj; match j, hj with | 0, _ => simp [f0] | 1, _ => simp [f1])
    (by intro v hv; simp at hv; rcases hv with rfl | rfl <;> rfl)
  simp only [Nat.add_zero] at hst
  simp [Builtin.clear_, run_underlying und22', hz, hzc, hst, World.setCells]
theorem pcells_drop {L : List Pt} {k : Nat} (hk : k ≤ L.length) (j : Nat) : (pcells (L.drop k))[j]? = (pcells L)[k * 2 + j]? := by
  have h1 : pcells L = pcells (L.take k) ++ pcells (L.drop k) := by rw [← pcells_append, List.take_append_drop]
  have h2 : (pcells (L.take k)).length = k * 2 := by rw [pcells_length, List.length_take, Nat.min_eq_left hk]
  rw [h1, List.getElem?_append_right (by omega), h2, Nat.add_sub_cancel_left]
set_option maxRecDepth 100000 in
set_option maxHeartbeats 2000000 in
theorem delete_in (B g m cap i : Nat) (L : List Pt) (w : World) (hL : L.length = m + 1) (hi : i ≤ m) (hm : m ≤ 1000000) (hown : w.ownsRow B 26 2 (.slice (some ⟨g, 0, none⟩) (m + 1) cap) (m + 1) (pcells L)) (hB : B ≤ w.heap.size) (hcase : ¬ cap = i + 1) :
    Calls Try.prog 42 #[.slice (some ⟨g, 0, none⟩) (m + 1) cap, .int .i64 i, .int .i64 ((i : Int) + 1)] w fun e w' => e = .returned (.slice (some ⟨g, 0, none⟩) m cap) ∧ w'.ownsRow B 26 2 (.slice (some ⟨g, 0, none⟩) m cap) m (pcells (L.take i ++ L.drop (i + 1))) ∧ Kw (fun b => b = g) w w' := by
  have hmc : m + 1 ≤ cap := by
    rcases own_form hown with ⟨e, _⟩ | ⟨g', c', e, h, _⟩
    · cases e
    · cases e
      exact h
  have HO := Lib.hid hown
  have HT := Lib.hid (own_take hown hL (by omega : i ≤ m + 1))
  have HL := Lib.hid hL
  clear hown hL
  obtain ⟨n, hn⟩ : ∃ n, m + 1 = n := ⟨_, rfl⟩
  have HN := Lib.hid hn
  rw [hn] at HO ⊢ hmc HL
  have k0 : (0 : Int) ≤ (i : Int) := by omega
  have k1 : (i : Int) ≤ (i : Int) + 1 := by omega
  have k2 : (0 : Int) ≤ (i : Int) + 1 := by omega
  have k3 : (i : Int) + 1 ≤ (n : Int) := by omega
  have k4 : (n : Int) ≤ (cap : Int) := by omega
  have k5 : ((i : Int) + 1).toNat = i + 1 := by omega
  have k6 : ¬ (i : Int) = (i : Int) + 1 := by omega
  have k7 : ((i : Int) == (i : Int) + 1) = false := by simpa using k6
  have k8 : (i : Int) ≤ (cap : Int) := by omega
  have k9 : (i : Int) + 1 ≤ (cap : Int) := by omega
  have hsum : Hid (i + (n - (i + 1)) = m) := Lib.hid (by omega)
  have hin : i + 1 ≤ n := by omega
  have HR : Hid (∀ j u, (pcells (L.drop (i + 1)))[j]? = some u → w.drew.cell? (Addr.add ⟨g, (i + 1) * 2, none⟩ j) = some u) := Lib.hid (fun j u hu => by
    rw [pcells_drop (by rw [HL.out]; exact hin)] at hu
    have := (own_cell HO.out _ _ hu).1
    rw [Addr.add_lit]
    exact this)
  have HD : Hid ((L.drop (i + 1)).length = n - (i + 1)) := Lib.hid (by rw [List.length_drop, HL.out])
  have hfit : Hid (i + (n - (i + 1)) ≤ cap) := Lib.hid (by omega)
  clear hn
  go_enter Try.func42, Try.ntmps42
  go_wp2_with (fail)
  go_region_held3 (fun _ => True) (trivial)
    ((first
      | (refine step_fits _ rfl _ _ rfl B g i cap (L.take i) rfl HT.out.drew ⟨g, (i + 1) * 2, none⟩ (n - (i + 1)) _ (L.drop (i + 1)) HD.out (by first | rfl | simp) HR.out hfit.out ?_; intro w2 hown2 hg2)))
  rw [hsum.out] at hown2 ⊢
  have HO2 := Lib.hid hown2
  have HG2 := Lib.hid hg2
  obtain ⟨u0, y0, z0⟩ := own_tail hown2 (j := m * 2) (by have := HN.out; omega)
  obtain ⟨u1, y1, z1⟩ := own_tail hown2 (j := m * 2 + 1) (by have := HN.out; omega)
  have hclr := fun ty => run_clear2 w2 ty g (m * 2) (cap - m) y0 y1 z0 z1
  have hnm : n - m = 1 := by have := HN.out; omega
  have m0 : (0 : Int) ≤ (m : Int) := by omega
  have m1 : (m : Int) ≤ (n : Int) := by have := HN.out; omega
  have m2 : ¬ cap = m := by have := HN.out; omega
  clear hown2 hg2 y0 y1 z0 z1
  go_wp2_with (fail)
  go_ret
  have hk1 : Kw (fun b => b = g) w w2 := ((Kw.refl _ _).drew).grown HG2.out (fun k e => by cases e; rfl)
  have hk2 := Kw.setCell (S := fun b => b = g) hk1 (p := ⟨g, m * 2, none⟩) rfl (.int .u64 0)
  have hk3 := Kw.setCell (S := fun b => b = g) hk2 (p := ⟨g, m * 2 + 1, none⟩) rfl (.slice none 0 0)
  exact ⟨rfl, own_set_tail (own_set_tail HO2.out (Nat.le_refl _) _) (by omega) _, hk3⟩
set_option maxRecDepth 100000 in
set_option maxHeartbeats 2000000 in
theorem delete_end (B g i : Nat) (L : List Pt) (w : World) (hL : L.length = i + 1) (hm : i ≤ 1000000) (hown : w.ownsRow B 26 2 (.slice (some ⟨g, 0, none⟩) (i + 1) (i + 1)) (i + 1) (pcells L)) (hB : B ≤ w.heap.size) :
    Calls Try.prog 42 #[.slice (some ⟨g, 0, none⟩) (i + 1) (i + 1), .int .i64 i, .int .i64 ((i : Int) + 1)] w fun e w' => e = .returned (.slice (some ⟨g, 0, none⟩) i (i + 1)) ∧ w'.ownsRow B 26 2 (.slice (some ⟨g, 0, none⟩) i (i + 1)) i (pcells (L.take i ++ L.drop (i + 1))) ∧ Kw (fun b => b = g) w w' := by
  have HO2 : Hid (w.drew.ownsRow B 26 2 (.slice (some ⟨g, 0, none⟩) i (i + 1)) i (pcells (L.take i ++ L.drop (i + 1)))) := Lib.hid (by
    rw [List.drop_of_length_le (by omega), List.append_nil]
    exact (own_take hown hL (by omega : i ≤ i + 1)).drew)
  clear hown hL
  obtain ⟨n, hn⟩ : ∃ n, i + 1 = n := ⟨_, rfl⟩
  have HN := Lib.hid hn
  have k0 : (0 : Int) ≤ (i : Int) := by omega
  have k1 : (i : Int) ≤ (i : Int) + 1 := by omega
  have k2 : (0 : Int) ≤ (i : Int) + 1 := by omega
  have k3 : (i : Int) + 1 ≤ (n : Int) := by omega
  have k5 : ((i : Int) + 1).toNat = i + 1 := by omega
  have k6 : ¬ (i : Int) = (i : Int) + 1 := by omega
  have k7 : ((i : Int) == (i : Int) + 1) = false := by simpa using k6
  have k8 : (i : Int) ≤ (n : Int) := by omega
  have k9 : n ≤ i + 1 := by omega
  have ka : i + 1 ≤ n := by omega
  obtain ⟨u0, y0, z0⟩ := own_tail HO2.out (j := i * 2) (by omega)
  obtain ⟨u1, y1, z1⟩ := own_tail HO2.out (j := i * 2 + 1) (by omega)
  have hclr := fun ty c => run_clear2 w.drew ty g (i * 2) c y0 y1 z0 z1
  have hst : ∀ W : World, (storeCells ⟨g, i * 2, none⟩ []).run Try.prog W = .ok () W := fun W => rfl
  have kb : ¬ i + 1 = i := by omega
  clear hn y0 y1 z0 z1
  go_enter Try.func42, Try.ntmps42
  go_wp2_with (fail)
  go_region_held3 (fun _ => True) (trivial) ((first | fail))
  go_wp2_with (fail)
  go_ret
  have hk1 : Kw (fun b => b = g) w w.drew := (Kw.refl _ _).drew
  have hk2 := Kw.setCell (S := fun b => b = g) hk1 (p := ⟨g, i * 2, none⟩) rfl (.int .u64 0)
  have hk3 := Kw.setCell (S := fun b => b = g) hk2 (p := ⟨g, i * 2 + 1, none⟩) rfl (.slice none 0 0)
  exact ⟨rfl, own_set_tail (own_set_tail HO2.out (Nat.le_refl _) _) (by omega) _, hk3⟩
theorem delete_any (B g m cap i : Nat) (L : List Pt) (w : World) (hL : L.length = m + 1) (hi : i ≤ m) (hm : m ≤ 1000000) (hown : w.ownsRow B 26 2 (.slice (some ⟨g, 0, none⟩) (m + 1) cap) (m + 1) (pcells L)) (hB : B ≤ w.heap.size) :
    Calls Try.prog 42 #[.slice (some ⟨g, 0, none⟩) (m + 1) cap, .int .i64 i, .int .i64 ((i : Int) + 1)] w fun e w' => e = .returned (.slice (some ⟨g, 0, none⟩) m cap) ∧ w'.ownsRow B 26 2 (.slice (some ⟨g, 0, none⟩) m cap) m (pcells (L.take i ++ L.drop (i + 1))) ∧ Kw (fun b => b = g) w w' := by
  by_cases h : cap = i + 1
  · have hmc : m + 1 ≤ cap := by
      rcases own_form hown with ⟨e, _⟩ | ⟨g', c', e, h, _⟩
      · cases e
      · cases e
        exact h
    obtain rfl : i = m := by omega
    subst h
    exact delete_end B g i L w hL hm hown hB
  · exact delete_in B g m cap i L w hL hi hm hown hB h
end Go.Proofs.Ytmalcekbhnkfgaa
