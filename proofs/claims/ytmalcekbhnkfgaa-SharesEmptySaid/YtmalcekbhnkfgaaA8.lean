/- Contract of shares.Loose. Conditions: as each theorem states them. -/
import Derived.Test.YtmalcekbhnkfgaaA6
import Derived.Maps.AppendAt
namespace Go.Proofs.Ytmalcekbhnkfgaa
open Go.RowKit Go.Maps
set_option linter.unusedVariables false
set_option linter.unusedSimpArgs false

theorem own_ge {w : World} {B n sz : Nat} {e : TypeId} {v : Value} {xs : List Value} (h : w.ownsRow B e sz v n xs) : ∀ g, v.ownBlock = some g → B ≤ g := fun g hg => (h.lt g hg).1
theorem own_lt {w : World} {B n sz : Nat} {e : TypeId} {v : Value} {xs : List Value} (h : w.ownsRow B e sz v n xs) : ∀ g, v.ownBlock = some g → g < w.heap.size := fun g hg => (h.lt g hg).2
theorem own_new {w w' : World} {B n sz : Nat} {e : TypeId} {v : Value} {xs : List Value} (h : w.ownsRow B e sz v n xs) (k : Below w.heap.size w w') : w'.ownsRow B e sz v n xs := by
  refine ⟨h.1, ?_⟩
  rcases h.2 with h0 | ⟨g, c, cur, rfl, hb2, hg, r⟩
  · exact .inl h0
  · exact .inr ⟨g, c, cur, rfl, hb2, (k.block g (Array.getElem?_eq_some_iff.1 hg).1).trans hg, r⟩
theorem own_le {w : World} {B B' s n : Nat} {e : TypeId} {v : Value} {xs : List Value} (h : w.ownsRow B e s v n xs) (hb : B' ≤ B) : w.ownsRow B' e s v n xs := by
  refine ⟨h.1, ?_⟩
  rcases h.2 with h0 | ⟨g, c, cur, rfl, hb2, r⟩
  · exact .inl h0
  · exact .inr ⟨g, c, cur, rfl, by omega, r⟩
/-- From the address A on, in a block below B, the numbers stand. -/
def RdI (w : World) (B : Nat) (A : Option Addr) (l : List Int) : Prop :=
  (0 < l.length → ∃ b off, A = some ⟨b, off, none⟩ ∧ b < B ∧ B ≤ w.heap.size ∧ ∀ i, i < l.length → w.cell? ⟨b, off + i, none⟩ = some (.int .u64 (l.getD i 0))) ∧ ∀ x ∈ l, (Lit.int .u64 x).wf = true
theorem RdI.below {w w' : World} {B : Nat} {A : Option Addr} {l : List Int} (h : RdI w B A l) (k : Below B w w') : RdI w' B A l := by
  refine ⟨fun hl => ?_, h.2⟩
  obtain ⟨b, off, e, hb, hB, hc⟩ := h.1 hl
  exact ⟨b, off, e, hb, Nat.le_trans hB k.size, fun i hi => (k.cell (p := ⟨b, _, none⟩) hb).trans (hc i hi)⟩
theorem RdI.more {w : World} {B B' : Nat} {A : Option Addr} {l : List Int} (h : RdI w B A l) (h1 : B ≤ B') (h2 : B' ≤ w.heap.size) : RdI w B' A l := by
  refine ⟨fun hl => ?_, h.2⟩
  obtain ⟨b, off, e, hb, hB, hc⟩ := h.1 hl
  exact ⟨b, off, e, by omega, h2, hc⟩
theorem getI {l : List Int} {i : Nat} (h : i < l.length) : l.getD i 0 = l[i] := by rw [List.getD_eq_getElem?_getD, List.getElem?_eq_getElem h]; rfl
theorem take_snocI {l : List Int} {i : Nat} (h : i < l.length) : l.take (i + 1) = l.take i ++ [l.getD i 0] := by
  rw [getI h, List.take_succ_eq_append_getElem h]
/-- The numbers as cells. -/
def icells (l : List Int) : List Value := l.map (fun x => .int .u64 x)
theorem i23 : (Try.prog.info? 23).map (fun i => (i.zero, i.size, i.bytes)) = some (some (.int .u64 0), 1, 8) := by kernel_rfl
theorem u38 : Try.prog.underlying 38 = some (.slice 23) := by kernel_rfl
/-- Those that are not in L. -/
def notIn (L ss : List Int) : List Int := ss.filter (fun x => decide (x ∉ L))
theorem notIn_snoc (L ss : List Int) (x : Int) : notIn L (ss ++ [x]) = if x ∈ L then notIn L ss else notIn L ss ++ [x] := by
  unfold notIn
  rw [List.filter_append]
  by_cases h : x ∈ L
  · simp [h]
  · simp [h]
theorem notIn_length (L ss : List Int) : (notIn L ss).length ≤ ss.length := List.length_filter_le _ _
set_option maxRecDepth 100000 in
set_option maxHeartbeats 4000000 in
theorem loose_any (A : Option Addr) (c : Nat) (l : List Pt) (As : Option Addr) (ns cs : Nat) (ss : List Int) (w : World) (hA : RdP w w.heap.size A l) (hS : RdI w w.heap.size As ss) (hls : ss.length = ns) (hn : ns ≤ 1000000) :
    Calls Try.prog 20 #[.slice A l.length c, .slice As ns cs] w fun e w' => ∃ vo, e = .returned vo ∧ w'.ownsRow w.heap.size 23 1 vo (notIn (cntL l) ss).length (icells (notIn (cntL l) ss)) ∧ Below w.heap.size w w' := by
  obtain ⟨i0, hi, hz0, hz1, hz2⟩ := info_parts i23
  have HC := Lib.hid (counted_any A c l w hA)
  have HS := Lib.hid hS
  have HLS := Lib.hid hls
  generalize cntL l = L at *
  generalize l.length = n at *
  clear hA hS hls
  go_enter Try.func20, Try.ntmps20
  go_wp2_with (fail)
  refine HC.out.mono ?_
  rintro e w1 ⟨rfl, hc1, hb1⟩
  have HC1 := Lib.hid hc1
  have HB1 := Lib.hid hb1
  have hs1 := hb1.size
  have hm1 := hc1.lt
  clear hc1 hb1
  go_wp2_with (fail)
  go_loopw [6, 13] (fun vo vi wr => ∃ i : Nat, i ≤ ns ∧ vi = .int .i64 i ∧ wr.ownsRow w1.heap.size 23 1 vo (notIn L (ss.take i)).length (icells (notIn L (ss.take i))) ∧ CntAt wr w.heap.size L ∧ Below w1.heap.size w1 wr) (fun _ i _ => ns - (intOf i).toNat)
  case atStart => exact ⟨0, Nat.zero_le _, rfl, ⟨rfl, .inl ⟨rfl, rfl⟩⟩, HC1.out, Below.refl _ _⟩
  case round =>
    obtain ⟨i, hin, rfl, hown, hcn, hbl⟩ := hrel
    have HOWN := Lib.hid hown
    have HCN := Lib.hid hcn
    have HBL := Lib.hid hbl
    have hws := hbl.size
    have hmw := hcn.lt
    by_cases hi' : i < ns
    · have hi0 : (0 : Int) ≤ (i : Int) := by omega
      have hi1 : (i : Int) < (ns : Int) := by omega
      obtain ⟨b, off, rfl, hb, _, hc⟩ := HS.out.1 (by rw [HLS.out]; omega)
      have a0 := hc i (by rw [HLS.out]; exact hi')
      have hwf := HS.out.2 (ss.getD i 0) (by rw [getI (by rw [HLS.out]; exact hi')]; exact List.getElem_mem _)
      have hsn := take_snocI (l := ss) (i := i) (by rw [HLS.out]; exact hi')
      obtain ⟨x, hx⟩ : ∃ x, ss.getD i 0 = x := ⟨_, rfl⟩
      rw [hx] at a0 hwf hsn
      have a0 := ((HB1.out.trans (hbl.mono hs1)).cell (p := ⟨b, off + i, none⟩) hb).trans a0
      have hbw : b < wr.heap.size := by omega
      have hnl : (notIn L (ss.take i)).length ≤ i := by have := notIn_length L (ss.take i); rw [List.length_take] at this; omega
      have HSN := Lib.hid hsn
      have HWF := Lib.hid hwf
      have HNL := Lib.hid hnl
      clear hc hx hsn hown hcn hbl hnl hwf
      go_wp2_with ((at_lookup; refine Hid.out ?_))
      refine Lib.hid ?_
      refine wpList_look_cnt _ (by rfl) _ _ rfl w.heap.size L HCN.out rfl x HWF.out rfl ?_
      by_cases hxL : x ∈ L
      · have hq : 0 < L.count x := List.count_pos_iff.2 hxL
        obtain ⟨q, hqe⟩ : ∃ q, L.count x = q := ⟨_, rfl⟩
        rw [hqe] at hq ⊢
        have hq0 : ¬ ((q : Int) = 0) := by omega
        have HE : Hid (notIn L (ss.take (i + 1)) = notIn L (ss.take i)) := Lib.hid (by rw [HSN.out, notIn_snoc, if_pos hxL])
        clear hqe hxL hq
        go_wp2_with (fail)
        go_roundw
        case rel => exact ⟨i + 1, by omega, by first | rfl | (push_cast; rfl) | go_num, by rw [HE.out]; exact HOWN.out, HCN.out, HBL.out⟩
        case measure => simp [intOf]; omega
      · have hq : L.count x = 0 := List.count_eq_zero.2 hxL
        rw [hq]
        have HE : Hid (notIn L (ss.take (i + 1)) = notIn L (ss.take i) ++ [x]) := Lib.hid (by rw [HSN.out, notIn_snoc, if_neg hxL])
        clear hxL hq
        go_wp2_with ((at_builtin; refine Hid.out ?_))
        refine Lib.hid ?_
        have hbA : Below wr.heap.size wr (wr.alloc (Obj.cells #[Value.int .u64 x] 23)) := bl_alloc (Below.refl _ _) _
        refine wpList_append_own _ rfl _ _ 38 rfl w1.heap.size 23 i0 (.int .u64 0) 1 8 u38 hi hz0 hz1 hz2 rfl (by decide) _ (notIn L (ss.take i)).length (icells (notIn L (ss.take i))) rfl (own_new HOWN.out hbA) ⟨wr.heap.size, 0, none⟩ 1 1 [.int .u64 x] rfl rfl (cell_one_new _ _ _) (by simp [Value.oneCell']) (by have := HNL.out; unfold maxLen; omega) (by have := HNL.out; omega) (by simp; omega) ?_
        intro v' w2 hown2 hgrow2 _
        have hb2 : Below w1.heap.size w1 w2 := (HBL.out.trans (hbA.mono hws)).grown hgrow2 (by simp; omega) (own_ge HOWN.out)
        have hc2 : CntAt w2 w.heap.size L := (HCN.out.below hbA (by omega)).grown hgrow2 (fun e => by have := own_ge HOWN.out _ e.symm; omega)
        have HO2 : Hid (w2.ownsRow w1.heap.size 23 1 v' (notIn L (ss.take (i + 1))).length (icells (notIn L (ss.take (i + 1))))) := Lib.hid (by
          rw [HE.out]
          simpa [icells] using hown2)
        have HB2 := Lib.hid hb2
        have HC2 := Lib.hid hc2
        clear hown2 hgrow2 hb2 hc2 hbA
        go_wp2_with (fail)
        go_roundw
        case rel => exact ⟨i + 1, by omega, by first | rfl | (push_cast; rfl) | go_num, HO2.out, HC2.out, HB2.out⟩
        case measure => simp [intOf]; omega
    · have hine : i = ns := by omega
      subst hine
      have hirr : ¬ (i : Int) < (i : Int) := by omega
      have HO : Hid (wr.ownsRow w.heap.size 23 1 u6 (notIn L ss).length (icells (notIn L ss))) := Lib.hid (by
        have h := own_le HOWN.out hs1
        rwa [List.take_of_length_le (by rw [HLS.out]; exact Nat.le_refl _)] at h)
      clear hown hcn hbl
      go_wp2_with (fail)
      go_ret
      exact ⟨_, rfl, HO.out, HB1.out.trans (HBL.out.mono hs1)⟩
end Go.Proofs.Ytmalcekbhnkfgaa
