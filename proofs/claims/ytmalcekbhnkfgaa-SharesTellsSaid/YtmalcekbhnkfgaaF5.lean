/- Contract of slices.Delete at points. Conditions: as each theorem states them. -/
import Derived.Test.YtmalcekbhnkfgaaD2
import Derived.OwnWalk
import Derived.Laws.IdiomCopy
import Derived.Test.YtmalcekbhnkfgaaD4
import Derived.Test.YtmalcekbhnkfgaaE7
namespace Go.Proofs.Ytmalcekbhnkfgaa
open Go.RowKit Go.Maps
set_option linter.unusedVariables false
set_option linter.unusedSimpArgs false

theorem step_fits {ops : Array Oper} {o : Oper} {a : Act} {K : Act → World → Prop} {Q : Exit → Act → World → Prop} {E : Prop} (w : World) (hgd : o.guard = none) (s x : Operand)
    (ho : o.op = .call { callee := .builtin .append, args := #[s, x], argTypes := #[22, 22] }) (base g k cap : Nat) (xs : List Pt) (hs : a.eval s = .slice (some ⟨g, 0, none⟩) k cap) (hown : w.ownsRow base 26 2 (.slice (some ⟨g, 0, none⟩) k cap) k (pcells xs))
    (ad : Addr) (m c : Nat) (l : List Pt) (hm : l.length = m) (hx : a.eval x = .slice (some ad) m c) (hr : ∀ j u, (pcells l)[j]? = some u → w.cell? (ad.add j) = some u) (hn : k + m ≤ cap)
    (h : ∀ w', w'.ownsRow base 26 2 (.slice (some ⟨g, 0, none⟩) (k + m) cap) (k + m) (pcells (xs ++ l)) → w.grownBy w' (some g) → K (a.put o.dst (.slice (some ⟨g, 0, none⟩) (k + m) cap)) w') :
    if Region.wanted o (yielded ops a.tmps) = true then Oper.wp Try.prog o a w K Q else E := by
  have hw : Region.wanted o (yielded ops a.tmps) = true := by simp [Region.wanted, hgd]
  rw [if_pos hw]
  obtain ⟨i0, hi, hz0, hz1, hz2⟩ := info_parts i26
  obtain ⟨w', hrun, r1, r2⟩ := run_append_fits (P := Try.prog) w base 22 o.type 26 i0 2 und22' hi hz1 g k cap (pcells xs) hown ad m c (pcells l) (by rw [pcells_length, hm]) hr (pcells_one l) hn
  unfold Oper.wp
  simp [execOp, ho, resolve, invoke, builtin, hs, hx, hrun, Result.andThen]
  exact h w' (by rw [pcells_append]; exact r1) r2
theorem own_tail {w : World} {B g k cap : Nat} {xs : List Value} (h : w.ownsRow B 26 2 (.slice (some ⟨g, 0, none⟩) k cap) k xs) {j : Nat} (hj : j < cap * 2) : ∃ u, w.cell? ⟨g, j, none⟩ = some u ∧ w.frozen? ⟨g, j, none⟩ = false := by
  rcases h.2 with ⟨e, _⟩ | ⟨g', c', cur, e, hb, hg, hnc, hcm, hs, ht⟩
  · cases e
  · cases e
    refine ⟨cur[j]'(by omega), ?_, by simp [World.frozen?, hg]⟩
    simp only [World.cell?, hg]
    simp [Array.getElem?_eq_getElem (show j < cur.size by omega)]
theorem own_set_tail {w : World} {B g k cap : Nat} {xs : List Value} (h : w.ownsRow B 26 2 (.slice (some ⟨g, 0, none⟩) k cap) k xs) {j : Nat} (hj : k * 2 ≤ j) (v : Value) : (w.setCell ⟨g, j, none⟩ v).ownsRow B 26 2 (.slice (some ⟨g, 0, none⟩) k cap) k xs := by
  refine ⟨h.1, ?_⟩
  rcases h.2 with ⟨e, _⟩ | ⟨g', c', cur, e, hb, hg, hnc, hcm, hs, ht⟩
  · cases e
  · cases e
    refine .inr ⟨g, cap, cur.setIfInBounds j v, rfl, hb, set_heap hg, hnc, hcm, by simpa using hs, ?_⟩
    rw [← ht]
    apply List.ext_getElem?
    intro i
    rw [List.getElem?_take, List.getElem?_take]
    split
    · rw [Array.toList_setIfInBounds, List.getElem?_set_ne (by omega)]
    · rfl
theorem own_take {w : World} {B g n cap i : Nat} {L : List Pt} (h : w.ownsRow B 26 2 (.slice (some ⟨g, 0, none⟩) n cap) n (pcells L)) (hL : L.length = n) (hi : i ≤ n) : w.ownsRow B 26 2 (.slice (some ⟨g, 0, none⟩) i cap) i (pcells (L.take i)) := by
  refine ⟨by rw [pcells_length, List.length_take, hL, Nat.min_eq_left hi], ?_⟩
  rcases h.2 with ⟨e, _⟩ | ⟨g', c', cur, e, hb, hg, hnc, hcm, hs, ht⟩
  · cases e
  · cases e
    refine .inr ⟨g, cap, cur, rfl, hb, hg, by omega, hcm, hs, ?_⟩
    have h1 : pcells L = pcells (L.take i) ++ pcells (L.drop i) := by rw [← pcells_append, List.take_append_drop]
    have h2 : (pcells (L.take i)).length = i * 2 := by rw [pcells_length, List.length_take, hL, Nat.min_eq_left hi]
    have h3 : cur.toList.take (i * 2) = (cur.toList.take (n * 2)).take (i * 2) := by rw [List.take_take, Nat.min_eq_left (by omega)]
    rw [h3, ht, h1, List.take_append_of_le_length (by omega), ← h2, List.take_length]
theorem run_clear2 (w : World) (ty : TypeId) (g o c : Nat) {u0 u1 : Value} (h0 : w.cell? ⟨g, o, none⟩ = some u0) (h1 : w.cell? ⟨g, o + 1, none⟩ = some u1) (f0 : w.frozen? ⟨g, o, none⟩ = false) (f1 : w.frozen? ⟨g, o + 1, none⟩ = false) :
    (Builtin.clear_ #[22] ty #[.slice (some ⟨g, o, none⟩) 1 c]).run Try.prog w = .ok (.tuple #[]) ((w.setCell ⟨g, o, none⟩ (.int .u64 0)).setCell ⟨g, o + 1, none⟩ (.slice none 0 0)) := by
  have hz : ∀ w, (zeroValue 26).run Try.prog w = .ok (.agg #[.int .u64 0, .slice none 0 0]) w := fun w => by kernel_rfl
  have hzc : (Builtin.zeroCells (Value.cells (.agg #[.int .u64 0, .slice none 0 0])) 1).toList = [.int .u64 0, .slice none 0 0] := by kernel_rfl
  have hst := run_storeCells_cells (P := Try.prog) g o [.int .u64 0, .slice none 0 0] 0 w
    (by intro j hj; match j, hj with | 0, _ => simp [h0] | 1, _ => simp [h1])
    (by intro j hj; match j, hj with | 0, _ => simp [f0] | 1, _ => simp [f1])
    (by intro v hv; simp at hv; rcases hv with rfl | rfl <;> rfl)
  simp only [Nat.add_zero] at hst
  simp [Builtin.clear_, run_underlying und22', hz, hzc, hst, World.setCells]
theorem pcells_drop {L : List Pt} {k : Nat} (hk : k ≤ L.length) (j : Nat) : (pcells (L.drop k))[j]? = (pcells L)[k * 2 + j]? := by
  have h1 : pcells L = pcells (L.take k) ++ pcells (L.drop k) := by rw [← pcells_append, List.take_append_drop]
  have h2 : (pcells (L.take k)).length = k * 2 := by rw [pcells_length, List.length_take, Nat.min_eq_left hk]
  rw [h1, List.getElem?_append_right (by omega), h2, Nat.add_sub_cancel_left]
set_option maxRecDepth 100000 in
set_option maxHeartbeats 2000000 in
theorem delete_in (B g m cap i : Nat) (L : List Pt) (w : World) (hL : L.length = m + 1) (hi : i ≤ m) (hm : m ≤ 1000000) (hown : w.ownsRow B 26 2 (.slice (some ⟨g, 0, none⟩) (m + 1) cap) (m + 1) (pcells L)) (hB : B ≤ w.heap.size) (hcase : ¬ cap = i + 1) :
    Calls Try.prog 42 #[.slice (some ⟨g, 0, none⟩) (m + 1) cap, .int .i64 i, .int .i64 ((i : Int) + 1)] w fun e w' => e = .returned (.slice (some ⟨g, 0, none⟩) m cap) ∧ w'.ownsRow B 26 2 (.slice (some ⟨g, 0, none⟩) m cap) m (pcells (L.take i ++ L.drop (i + 1))) ∧ Kw (fun b => b = g) w w' := by
  have hmc : m + 1 ≤ cap := by
    rcases own_form hown with ⟨e, _⟩ | ⟨g', c', e, h, _⟩
    · cases e
    · cases e
      exact h
  have HO := Lib.hid hown
  have HT := Lib.hid (own_take hown hL (by omega : i ≤ m + 1))
  have HL := Lib.hid hL
  clear hown hL
  obtain ⟨n, hn⟩ : ∃ n, m + 1 = n := ⟨_, rfl⟩
  have HN := Lib.hid hn
  rw [hn] at HO ⊢ hmc HL
  have k0 : (0 : Int) ≤ (i : Int) := by omega
  have k1 : (i : Int) ≤ (i : Int) + 1 := by omega
  have k2 : (0 : Int) ≤ (i : Int) + 1 := by omega
  have k3 : (i : Int) + 1 ≤ (n : Int) := by omega
  have k4 : (n : Int) ≤ (cap : Int) := by omega
  have k5 : ((i : Int) + 1).toNat = i + 1 := by omega
  have k6 : ¬ (i : Int) = (i : Int) + 1 := by omega
  have k7 : ((i : Int) == (i : Int) + 1) = false := by simpa using k6
  have k8 : (i : Int) ≤ (cap : Int) := by omega
  have k9 : (i : Int) + 1 ≤ (cap : Int) := by omega
  have hsum : Hid (i + (n - (i + 1)) = m) := Lib.hid (by omega)
  have hin : i + 1 ≤ n := by omega
  have HR : Hid (∀ j u, (pcells (L.drop (i + 1)))[j]? = some u → w.drew.cell? (Addr.add ⟨g, (i + 1) * 2, none⟩ j) = some u) := Lib.hid (fun j u hu => by
    rw [pcells_drop (by rw [HL.out]; exact hin)] at hu
    have := (own_cell HO.out _ _ hu).1
    rw [Addr.add_lit]
    exact this)
  have HD : Hid ((L.drop (i + 1)).length = n - (i + 1)) := Lib.hid (by rw [List.length_drop, HL.out])
  have hfit : Hid (i + (n - (i + 1)) ≤ cap) := Lib.hid (by omega)
  clear hn
  go_enter Try.func42, Try.ntmps42
  go_wp2_with (fail)
  go_region_held3 (fun _ => True) (trivial)
    ((first
      | (refine step_fits _ rfl _ _ rfl B g i cap (L.take i) rfl HT.out.drew ⟨g, (i + 1) * 2, none⟩ (n - (i + 1)) _ (L.drop (i + 1)) HD.out (by first | rfl | simp) HR.out hfit.out ?_; intro w2 hown2 hg2)))
  rw [hsum.out] at hown2 ⊢
  have HO2 := Lib.hid hown2
  have HG2 := Lib.hid hg2
  obtain ⟨u0, y0, z0⟩ := own_tail hown2 (j := m * 2) (by have := HN.out; omega)
  obtain ⟨u1, y1, z1⟩ := own_tail hown2 (j := m * 2 + 1) (by have := HN.out; omega)
  have hclr := fun ty => run_clear2 w2 ty g (m * 2) (cap - m) y0 y1 z0 z1
  have hnm : n - m = 1 := by have := HN.out; omega
  have m0 : (0 : Int) ≤ (m : Int) := by omega
  have m1 : (m : Int) ≤ (n : Int) := by have := HN.out; omega
  have m2 : ¬ cap = m := by have := HN.out; omega
  clear hown2 hg2 y0 y1 z0 z1
  go_wp2_with (fail)
  go_ret
  have hk1 : Kw (fun b => b = g) w w2 := ((Kw.refl _ _).drew).grown HG2.out (fun k e => by cases e; rfl)
  have hk2 := Kw.setCell (S := fun b => b = g) hk1 (p := ⟨g, m * 2, none⟩) rfl (.int .u64 0)
  have hk3 := Kw.setCell (S := fun b => b = g) hk2 (p := ⟨g, m * 2 + 1, none⟩) rfl (.slice none 0 0)
  exact ⟨rfl, own_set_tail (own_set_tail HO2.out (Nat.le_refl _) _) (by omega) _, hk3⟩
set_option maxRecDepth 100000 in
set_option maxHeartbeats 2000000 in
theorem delete_end (B g i : Nat) (L : List Pt) (w : World) (hL : L.length = i + 1) (hm : i ≤ 1000000) (hown : w.ownsRow B 26 2 (.slice (some ⟨g, 0, none⟩) (i + 1) (i + 1)) (i + 1) (pcells L)) (hB : B ≤ w.heap.size) :
    Calls Try.prog 42 #[.slice (some ⟨g, 0, none⟩) (i + 1) (i + 1), .int .i64 i, .int .i64 ((i : Int) + 1)] w fun e w' => e = .returned (.slice (some ⟨g, 0, none⟩) i (i + 1)) ∧ w'.ownsRow B 26 2 (.slice (some ⟨g, 0, none⟩) i (i + 1)) i (pcells (L.take i ++ L.drop (i + 1))) ∧ Kw (fun b => b = g) w w' := by
  have HO2 : Hid (w.drew.ownsRow B 26 2 (.slice (some ⟨g, 0, none⟩) i (i + 1)) i (pcells (L.take i ++ L.drop (i + 1)))) := Lib.hid (by
    rw [List.drop_of_length_le (by omega), List.append_nil]
    exact (own_take hown hL (by omega : i ≤ i + 1)).drew)
  clear hown hL
  obtain ⟨n, hn⟩ : ∃ n, i + 1 = n := ⟨_, rfl⟩
  have HN := Lib.hid hn
  have k0 : (0 : Int) ≤ (i : Int) := by omega
  have k1 : (i : Int) ≤ (i : Int) + 1 := by omega
  have k2 : (0 : Int) ≤ (i : Int) + 1 := by omega
  have k3 : (i : Int) + 1 ≤ (n : Int) := by omega
  have k5 : ((i : Int) + 1).toNat = i + 1 := by omega
  have k6 : ¬ (i : Int) = (i : Int) + 1 := by omega
  have k7 : ((i : Int) == (i : Int) + 1) = false := by simpa using k6
  have k8 : (i : Int) ≤ (n : Int) := by omega
  have k9 : n ≤ i + 1 := by omega
  have ka : i + 1 ≤ n := by omega
  obtain ⟨u0, y0, z0⟩ := own_tail HO2.out (j := i * 2) (by omega)
  obtain ⟨u1, y1, z1⟩ := own_tail HO2.out (j := i * 2 + 1) (by omega)
  have hclr := fun ty c => run_clear2 w.drew ty g (i * 2) c y0 y1 z0 z1
  have hst : ∀ W : World, (storeCells ⟨g, i * 2, none⟩ []).run Try.prog W = .ok () W := fun W => rfl
  have kb : ¬ i + 1 = i := by omega
  clear hn y0 y1 z0 z1
  go_enter Try.func42, Try.ntmps42
  go_wp2_with (fail)
  go_region_held3 (fun _ => True) (trivial) ((first | fail))
  go_wp2_with (fail)
  go_ret
  have hk1 : Kw (fun b => b = g) w w.drew := (Kw.refl _ _).drew
  have hk2 := Kw.setCell (S := fun b => b = g) hk1 (p := ⟨g, i * 2, none⟩) rfl (.int .u64 0)
  have hk3 := Kw.setCell (S := fun b => b = g) hk2 (p := ⟨g, i * 2 + 1, none⟩) rfl (.slice none 0 0)
  exact ⟨rfl, own_set_tail (own_set_tail HO2.out (Nat.le_refl _) _) (by omega) _, hk3⟩
theorem delete_any (B g m cap i : Nat) (L : List Pt) (w : World) (hL : L.length = m + 1) (hi : i ≤ m) (hm : m ≤ 1000000) (hown : w.ownsRow B 26 2 (.slice (some ⟨g, 0, none⟩) (m + 1) cap) (m + 1) (pcells L)) (hB : B ≤ w.heap.size) :
    Calls Try.prog 42 #[.slice (some ⟨g, 0, none⟩) (m + 1) cap, .int .i64 i, .int .i64 ((i : Int) + 1)] w fun e w' => e = .returned (.slice (some ⟨g, 0, none⟩) m cap) ∧ w'.ownsRow B 26 2 (.slice (some ⟨g, 0, none⟩) m cap) m (pcells (L.take i ++ L.drop (i + 1))) ∧ Kw (fun b => b = g) w w' := by
  by_cases h : cap = i + 1
  · have hmc : m + 1 ≤ cap := by
      rcases own_form hown with ⟨e, _⟩ | ⟨g', c', e, h, _⟩
      · cases e
      · cases e
        exact h
    obtain rfl : i = m := by omega
    subst h
    exact delete_end B g i L w hL hm hown hB
  · exact delete_in B g m cap i L w hL hi hm hown hB h
end Go.Proofs.Ytmalcekbhnkfgaa
namespace Go.Proofs.Ytmalcekbhnkfgaa
open Go.RowKit Go.Maps Go.Shelf
set_option linter.unusedVariables false
set_option linter.unusedSimpArgs false

set_option maxHeartbeats 1000000 in
theorem drop1_any (pid id : Int) (A : Option Addr) (n c Bi : Nat) (w : World) (hb : w.cell? ⟨Bi, 0, none⟩ = some (.int .u64 id)) (hl : Bi < w.heap.size) :
    Calls Try.prog 41 #[.agg #[.int .u64 pid, .slice A n c], .pointer (some ⟨Bi, 0, none⟩)] w fun e w' => e = .returned (.bool (decide (pid = id))) ∧ Below w.heap.size w w' := by
  have hbA := bl_alloc (Below.refl w.heap.size w) (Obj.cells #[.int .u64 pid, .slice A n c] 26)
  go_enter Try.func41, Try.ntmps41
  go_wp2_with (fail)
  go_ret
  refine ⟨?_, hbA⟩
  by_cases h : pid = id
  · simp [h]
  · simp [h]
/-- What IndexFunc tells of the points' numbers. -/
def IdxR (l : List Pt) (n : Nat) (id : Int) (e : Ending) : Prop := ∃ k : Int, e = .returned (.int .i64 k) ∧ ((k = -1 ∧ ∀ i, i < n → (l.getD i zeroP).id ≠ id) ∨ ∃ i : Nat, k = i ∧ i < n ∧ (l.getD i zeroP).id = id)
set_option maxRecDepth 100000 in
set_option maxHeartbeats 2000000 in
theorem index_any (A : Option Addr) (n c Bi : Nat) (id : Int) (l : List Pt) (w : World) (hl : l.length = n) (hn : n ≤ 1000000) (hA : RdP w w.heap.size A l) (hb : w.cell? ⟨Bi, 0, none⟩ = some (.int .u64 id)) (hBi : Bi < w.heap.size) :
    Calls Try.prog 40 #[.slice A n c, .func (.func 41) #[] #[.pointer (some ⟨Bi, 0, none⟩)]] w fun e w' => IdxR l n id e ∧ Below w.heap.size w w' := by
  have HA := Lib.hid hA
  have HL := Lib.hid hl
  have HB := Lib.hid hb
  clear hA hl hb
  go_enter Try.func40, Try.ntmps40
  go_wp2_with (fail)
  go_loopw [8] (fun vi wr => ∃ i : Nat, i ≤ n ∧ vi = .int .i64 i ∧ (∀ j, j < i → (l.getD j zeroP).id ≠ id) ∧ Below w.heap.size w wr) (fun i _ => n - (intOf i).toNat)
  case atStart => exact ⟨0, Nat.zero_le _, rfl, fun j hj => by omega, Below.refl _ _⟩
  case round =>
    obtain ⟨i, hin, rfl, hno, hbl⟩ := hrel
    have HNO := Lib.hid hno
    have HBL := Lib.hid hbl
    have hws := hbl.size
    clear hno hbl
    by_cases hi : i < n
    · have hi0 : (0 : Int) ≤ (i : Int) := by omega
      have hi1 : (i : Int) < (n : Int) := by omega
      obtain ⟨b, off, rfl, hbb, _, hc⟩ := HA.out.1 (by rw [HL.out]; omega)
      obtain ⟨a0, a1⟩ := hc i (by rw [HL.out]; exact hi)
      obtain ⟨p, hp⟩ : ∃ p, l.getD i zeroP = p := ⟨_, rfl⟩
      rw [hp] at a0 a1
      have HP := Lib.hid hp
      have a0 := (HBL.out.cell (p := ⟨b, off + i * 2, none⟩) hbb).trans a0
      have a1 := (HBL.out.cell (p := ⟨b, off + i * 2 + 1, none⟩) hbb).trans a1
      have hbw : b < wr.heap.size := by omega
      have cB := (HBL.out.cell (p := ⟨Bi, 0, none⟩) hBi).trans HB.out
      have hBw : Bi < wr.heap.size := by omega
      clear hc hp
      go_wp2_with ((go_at_call 41; refine Hid.out ?_))
      refine Lib.hid ?_
      refine (drop1_any p.id id p.A p.fs.length p.c Bi wr cB hBw).mono ?_
      rintro e w2 ⟨rfl, hb2⟩
      have HB2 := Lib.hid (HBL.out.trans (hb2.mono hws))
      clear hb2
      by_cases hid : p.id = id
      · have hd : decide (p.id = id) = true := decide_eq_true hid
        rw [hd]
        have HV : Hid (IdxR l n id (.returned (.int .i64 (i : Int)))) := Lib.hid ⟨_, rfl, .inr ⟨i, rfl, hi, by rw [HP.out]; exact hid⟩⟩
        clear hid hd
        go_wp2_with (fail)
        go_ret
        exact ⟨HV.out, HB2.out⟩
      · have hd : decide (p.id = id) = false := decide_eq_false hid
        rw [hd]
        have HV : Hid (∀ j, j < i + 1 → (l.getD j zeroP).id ≠ id) := Lib.hid (fun j hj => by
          by_cases hji : j = i
          · rw [hji, HP.out]
            exact hid
          · exact HNO.out j (by omega))
        clear hid hd
        go_wp2_with (fail)
        go_roundw
        case rel => exact ⟨i + 1, by omega, by first | rfl | (push_cast; rfl) | go_num, HV.out, HB2.out⟩
        case measure => simp [intOf]; omega
    · have hine : n = i := by omega
      subst hine
      have hirr : ¬ (n : Int) < (n : Int) := by omega
      have HV : Hid (IdxR l n id (.returned (.int .i64 (-1)))) := Lib.hid ⟨_, rfl, .inl ⟨rfl, HNO.out⟩⟩
      go_wp2_with (fail)
      go_ret
      exact ⟨HV.out, HBL.out⟩
end Go.Proofs.Ytmalcekbhnkfgaa
namespace Go.Proofs.Ytmalcekbhnkfgaa
open Go.RowKit Go.Maps Go.Shelf
set_option linter.unusedVariables false
set_option linter.unusedSimpArgs false

/-- The points of other numbers. -/
def dropL (l : List Pt) (id : Int) : List Pt := l.filter (fun p => decide (p.id ≠ id))
open Classical in
/-- What Drop answers. -/
noncomputable def dropE (l : List Pt) (id : Int) : Int := if RightP l then (if ∃ p ∈ l, p.id = id then 0 else 4) else 2
theorem dropE_2 {l : List Pt} {id : Int} (h : ¬ RightP l) : dropE l id = 2 := by unfold dropE; rw [if_neg h]
theorem dropE_4 {l : List Pt} {id : Int} (h : RightP l) (h2 : ∀ p ∈ l, p.id ≠ id) : dropE l id = 4 := by
  unfold dropE
  rw [if_pos h, if_neg (by rintro ⟨p, hp, e⟩; exact h2 p hp e)]
theorem dropE_0 {l : List Pt} {id : Int} (h : RightP l) {p : Pt} (hp : p ∈ l) (e : p.id = id) : dropE l id = 0 := by
  unfold dropE
  rw [if_pos h, if_pos ⟨p, hp, e⟩]
theorem filter_all {l : List Pt} {id : Int} (h : ∀ p ∈ l, p.id ≠ id) : dropL l id = l := by
  unfold dropL
  rw [List.filter_eq_self]
  intro p hp
  simpa using h p hp
theorem drop_split {l : List Pt} {id : Int} {i : Nat} (hu : idsUp l) (hi : i < l.length) (he : (l.getD i zeroP).id = id) : l.take i ++ l.drop (i + 1) = dropL l id := by
  have h1 : l = l.take i ++ (l.getD i zeroP :: l.drop (i + 1)) := by
    conv => lhs; rw [← List.take_append_drop i l, List.drop_eq_getElem_cons hi]
    rw [getP hi]
  generalize l.getD i zeroP = q at *
  have hu' : idsUp (l.take i ++ (q :: l.drop (i + 1))) := by rw [← h1]; exact hu
  obtain ⟨_, h2, h3⟩ := List.pairwise_append.1 hu'
  obtain ⟨h4, _⟩ := List.pairwise_cons.1 h2
  conv => rhs; rw [h1]
  unfold dropL
  rw [List.filter_append, List.filter_cons_of_neg (by simp [he])]
  have e1 := filter_all (l := l.take i) (id := id) (fun p hp => by have := h3 p hp q (by simp); omega)
  have e2 := filter_all (l := l.drop (i + 1)) (id := id) (fun p hp => by have := h4 p hp; omega)
  unfold dropL at e1 e2
  rw [e1, e2]
def DropPost (w : World) (l : List Pt) (id : Int) (e : Ending) (w' : World) : Prop :=
  ∃ v, e = .returned (.tuple #[v, .int .i64 (dropE l id)]) ∧ (dropE l id ≠ 0 → v = .slice none 0 0) ∧ (dropE l id = 0 → ∃ A' c' l', v = .slice A' (dropL l id).length c' ∧ sameP l' (dropL l id) ∧ OwnP w' w.heap.size A' l') ∧ Below w.heap.size w w'
set_option maxRecDepth 100000 in
set_option maxHeartbeats 4000000 in
theorem drop_len (A : Option Addr) (n c : Nat) (id : Int) (l : List Pt) (w : World) (hl : l.length = n) (hA : RdP w w.heap.size A l) :
    Calls Try.prog 26 #[.slice A n c, .int .u64 id] w (DropPost w l id) := by
  have HA := Lib.hid hA
  have HL := Lib.hid hl
  have HR := Lib.hid (fun (w' : World) (h : Below w.heap.size w w') => right_any A c l w' ((hA.below h).more h.size (Nat.le_refl _)))
  rw [hl] at HR
  have hbA := bl_alloc (Below.refl w.heap.size w) (Obj.cells #[.int .u64 id] 23)
  have bI := (Boxed.new w 23 (.int .u64 id)).cell
  have hsA : (w.alloc (Obj.cells #[.int .u64 id] 23)).heap.size = w.heap.size + 1 := by simp
  clear hA hl
  go_enter Try.func26, Try.ntmps26
  go_wp2_with (fail)
  generalize (w.alloc (Obj.cells #[.int .u64 id] 23)) = w1 at *
  have HB1 := Lib.hid hbA
  refine (HR.out w1 hbA).mono ?_
  rintro e w2 ⟨rfl, hb2⟩
  have hs2 := hb2.size
  have HB2 := Lib.hid (hbA.trans (hb2.mono hbA.size))
  have bI := (hb2.cell (p := ⟨w.heap.size, 0, none⟩) (by show w.heap.size < w1.heap.size; omega)).trans bI
  have hwl : w.heap.size < w2.heap.size := by omega
  have HI := Lib.hid bI
  clear hbA hb2 bI
  by_cases hr : RightP l
  · rw [rightB_t hr]
    have HRP := Lib.hid hr
    have hn16 : n ≤ 16 := by have := hr.1; rw [HL.out] at this; exact this
    clear hr
    go_wp2_with ((go_at_call 40; refine Hid.out ?_))
    refine Lib.hid ?_
    refine (index_any A n c w.heap.size id l w2 HL.out (by omega) ((HA.out.below HB2.out).more HB2.out.size (Nat.le_refl _)) HI.out hwl).mono ?_
    rintro e w3 ⟨⟨k, rfl, hk⟩, hb3⟩
    have HB3 := Lib.hid (HB2.out.trans (hb3.mono HB2.out.size))
    have hs3 := hb3.size
    clear hb3
    rcases hk with ⟨rfl, hno⟩ | ⟨i, rfl, hin, hie⟩
    · have HE : Hid (dropE l id = 4) := Lib.hid (dropE_4 HRP.out (fun p hp => by
        obtain ⟨j, hj, rfl⟩ := List.mem_iff_getElem.1 hp
        have := hno j (by rw [← HL.out]; exact hj)
        rwa [getP hj] at this))
      clear hno
      go_wp2_with (fail)
      go_ret2
      exact ⟨_, by rw [HE.out] <;> rfl, fun _ => rfl, fun h => by rw [HE.out] at h; omega, HB3.out⟩
    · have hE : dropE l id = 0 := dropE_0 HRP.out (getP_mem (by rw [HL.out]; exact hin)) hie
      have hD := drop_split HRP.out.2.2.1 (by rw [HL.out]; exact hin) hie
      have HE := Lib.hid hE
      have HD := Lib.hid hD
      have hki : ¬ (i : Int) < 0 := by omega
      have hk0 : (0 : Int) ≤ (i : Int) := by omega
      have hk1 : (i : Int) < (n : Int) := by omega
      clear hE hD hie
      go_wp2_with ((go_at_call 32; refine Hid.out ?_))
      refine Lib.hid ?_
      refine (cloneP_any A n c w.heap.size l w3 HL.out (HA.out.below HB3.out) (by omega)).mono ?_
      rintro e w4 ⟨v4, rfl, hown4, hb4⟩
      obtain ⟨g, cap, rfl, hgc, hgB, hgl⟩ : ∃ g cap, v4 = .slice (some ⟨g, 0, none⟩) n cap ∧ n ≤ cap ∧ w3.heap.size ≤ g ∧ g < w4.heap.size := by
        rcases own_form hown4 with ⟨_, h0⟩ | ⟨g, cap, e, h1, h2, h3⟩
        · omega
        · exact ⟨g, cap, e, h1, h2, h3⟩
      have HO4 := Lib.hid hown4
      have HB4 := Lib.hid (HB3.out.trans (hb4.mono HB3.out.size))
      have hs4 := hb4.size
      clear hown4 hb4
      go_wp2_with ((go_at_call 42; refine Hid.out ?_))
      refine Lib.hid ?_
      obtain ⟨m, rfl⟩ : ∃ m, n = m + 1 := ⟨n - 1, by omega⟩
      refine (delete_any w3.heap.size g m cap i l w4 HL.out (by omega) (by omega) HO4.out hs4).mono ?_
      rintro e w5 ⟨rfl, hown5, hk5⟩
      rw [HD.out] at hown5
      have hlD : (dropL l id).length = m := by
        rw [← HD.out, List.length_append, List.length_take, List.length_drop, HL.out]
        omega
      have hb5 : Below w3.heap.size w4 w5 := hk5.below hs4 (fun b e => by rw [e]; exact hgB)
      have HB5 : Hid (Below w.heap.size w w5) := Lib.hid (HB4.out.trans (hb5.mono HB3.out.size))
      have hs5 := HB5.out.size
      obtain ⟨A5, c5, e5, hr5, _⟩ := own_rp hown5 hlD (fun p hp => by
        have hpl : p ∈ l := (List.mem_filter.1 hp).1
        exact ⟨((HA.out.2 p hpl).1.below HB5.out).more hs5 (Nat.le_refl _), (HA.out.2 p hpl).2⟩)
      simp only [Value.slice.injEq] at e5
      obtain ⟨rfl, _, rfl⟩ := e5
      have HR5 := Lib.hid hr5
      have HLD := Lib.hid hlD
      have hs45 := hb5.size
      have hfd : ∀ p ∈ dropL l id, p.fs.length ≤ 1000000 := fun p hp => by
        have := (HRP.out.2.1 p (List.mem_filter.1 hp).1).2.1
        omega
      have HFD := Lib.hid hfd
      clear hown5 hk5 hb5 hr5 hlD hfd
      go_wp2_with ((go_at_call 31; refine Hid.out ?_))
      refine Lib.hid ?_
      refine (own_any (some ⟨g, 0, none⟩) cap m (dropL l id) w5 HLD.out HR5.out (by omega) HFD.out).mono ?_
      rintro e w6 ⟨A6, c6, l6, rfl, hs6, ho6, hb6⟩
      have HS6 := Lib.hid hs6
      have HO6 := Lib.hid (ho6.le HB5.out.size)
      have HB6 := Lib.hid (HB5.out.trans (hb6.mono HB5.out.size))
      clear hs6 ho6 hb6
      go_wp2_with (fail)
      go_ret2
      exact ⟨_, by rw [HE.out] <;> rfl, fun h => absurd HE.out h, fun _ => ⟨A6, c6, l6, by rw [HLD.out] <;> rfl, HS6.out, HO6.out⟩, HB6.out⟩
  · have HE : Hid (dropE l id = 2) := Lib.hid (dropE_2 hr)
    rw [rightB_f hr]
    clear hr
    go_wp2_with (fail)
    go_ret2
    exact ⟨_, by rw [HE.out] <;> rfl, fun _ => rfl, fun h => by rw [HE.out] at h; omega, HB2.out⟩
theorem drop_any (A : Option Addr) (c : Nat) (id : Int) (l : List Pt) (w : World) (hA : RdP w w.heap.size A l) : Calls Try.prog 26 #[.slice A l.length c, .int .u64 id] w (DropPost w l id) :=
  drop_len A l.length c id l w rfl hA
end Go.Proofs.Ytmalcekbhnkfgaa
