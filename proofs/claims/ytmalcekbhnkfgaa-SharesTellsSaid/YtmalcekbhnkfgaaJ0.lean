/- The walk of SharesLoose. Conditions: as each theorem states them. -/
import Derived.Test.YtmalcekbhnkfgaaI5
import Derived.Test.YtmalcekbhnkfgaaG3
namespace Go.Proofs.Ytmalcekbhnkfgaa
open Go.RowKit Go.Maps Go.Shelf
set_option linter.unusedVariables false
set_option linter.unusedSimpArgs false

theorem flat_len (l : List Pt) (h : ∀ p ∈ l, p.fs.length ≤ 256) (k : Nat) : (flat k l).length ≤ 256 * l.length := by
  induction l generalizing k with
  | nil => exact Nat.zero_le _
  | cons p l ih =>
    have h1 := ih (fun q hq => h q (List.mem_cons_of_mem _ hq)) (k + 1)
    have h2 := h p (List.mem_cons_self ..)
    simp only [flat, List.length_append, List.length_map, List.length_cons]
    omega
theorem cnt_len (l : List Pt) : (cntL l).length ≤ 100000 := by
  unfold cntL
  split
  · rename_i h
    rw [nums_length]
    have h1 := flat_len l (fun p hp => (h.2.1 p hp).2.1) 0
    have h2 := h.1
    omega
  · exact Nat.zero_le _
/-- Counts, as they lie in memory. -/
def CntR (w : World) (A : Option Addr) (n : Nat) (z : Nat → Int) (L : List Int) : Prop := 0 < n → ∃ g, A = some ⟨g, 0, none⟩ ∧ g < w.heap.size ∧ ∀ i, i < n → w.cell? ⟨g, i * 2, none⟩ = some (.int .u64 (z i)) ∧ w.cell? ⟨g, i * 2 + 1, none⟩ = some (.int .i64 (L.count (z i) : Nat))
theorem cpair_at (z : Nat → Int) (L : List Int) (n : Nat) : ∀ i, i < n → (cpair z L n)[i * 2]? = some (.int .u64 (z i)) ∧ (cpair z L n)[i * 2 + 1]? = some (.int .i64 (L.count (z i) : Nat)) := by
  induction n with
  | zero => intro i hi; omega
  | succ n ih =>
    intro i hi
    rw [cpair_succ]
    by_cases h : i < n
    · obtain ⟨h1, h2⟩ := ih i h
      rw [List.getElem?_append_left (by rw [cpair_length]; omega), List.getElem?_append_left (by rw [cpair_length]; omega)]
      exact ⟨h1, h2⟩
    · obtain rfl : i = n := by omega
      rw [List.getElem?_append_right (by rw [cpair_length]; omega), List.getElem?_append_right (by rw [cpair_length]; omega), cpair_length]
      simp
theorem CntR.of_own {w : World} {B n : Nat} {v : Value} {z : Nat → Int} {L : List Int} (h : w.ownsRow B 43 2 v n (cpair z L n)) : ∃ A c, v = .slice A n c ∧ CntR w A n z L := by
  rcases own_form h with ⟨rfl, h0⟩ | ⟨g, c, rfl, _⟩
  · exact ⟨none, 0, by rw [h0], fun hn => by omega⟩
  · refine ⟨_, c, rfl, fun hn => ⟨g, rfl, own_lt h g rfl, fun i hi => ?_⟩⟩
    obtain ⟨h1, h2⟩ := cpair_at z L n i hi
    exact ⟨(own_cell h _ _ h1).1, (own_cell h _ _ h2).1⟩
theorem CntR.below {w w' : World} {A : Option Addr} {n : Nat} {z : Nat → Int} {L : List Int} (h : CntR w A n z L) (k : Below w.heap.size w w') : CntR w' A n z L := fun hn => by
  obtain ⟨g, e, hg, hc⟩ := h hn
  exact ⟨g, e, Nat.lt_of_lt_of_le hg k.size, fun i hi => ⟨(k.cell (p := ⟨g, _, none⟩) hg).trans (hc i hi).1, (k.cell (p := ⟨g, _, none⟩) hg).trans (hc i hi).2⟩⟩
theorem rdI_own {w : World} {B : Nat} {v : Value} {l : List Int} (h : w.ownsRow B 23 1 v l.length (icells l)) (hwf : ∀ x ∈ l, (Lit.int .u64 x).wf = true) : ∃ A c, v = .slice A l.length c ∧ RdI w w.heap.size A l := by
  rcases own_form h with ⟨rfl, h0⟩ | ⟨g, c, rfl, _⟩
  · exact ⟨none, 0, by rw [h0], fun hn => by omega, hwf⟩
  · refine ⟨_, c, rfl, fun hn => ⟨g, 0, rfl, own_lt h g rfl, Nat.le_refl _, fun i hi => ?_⟩, hwf⟩
    have e : (icells l)[i]? = some (.int .u64 (l.getD i 0)) := by
      unfold icells
      rw [List.getElem?_map, List.getElem?_eq_getElem hi, getI hi]
      rfl
    rw [Nat.zero_add]
    exact (own_cell h _ _ e).1
theorem notIn_mem {L ss : List Int} {x : Int} (h : x ∈ notIn L ss) : x ∈ ss ∧ x ∉ L := by
  have h1 := List.mem_filter.1 h
  exact ⟨h1.1, of_decide_eq_true h1.2⟩
/-- Where the walk over the stored numbers stands among the loose ones. -/
theorem notIn_at {L ss : List Int} {i : Nat} (hi : i < ss.length) (hs : ss.getD i 0 ∉ L) : (notIn L (ss.take i)).length < (notIn L ss).length ∧ (notIn L ss).getD (notIn L (ss.take i)).length 0 = ss.getD i 0 := by
  have e : ss = ss.take i ++ (ss.getD i 0 :: ss.drop (i + 1)) := by
    rw [getI hi, List.getElem_cons_drop, List.take_append_drop]
  have e2 : notIn L ss = notIn L (ss.take i) ++ (ss.getD i 0 :: notIn L (ss.drop (i + 1))) := by
    conv => lhs; rw [e]
    unfold notIn
    rw [List.filter_append, List.filter_cons_of_pos (by simpa using hs)]
  constructor
  · rw [e2]
    simp
  · rw [e2, List.getD_eq_getElem?_getD, List.getElem?_append_right (Nat.le_refl _), Nat.sub_self]
    rfl
theorem notIn_not {L ss : List Int} {i a : Nat} (hi : i < ss.length) (hs : ss.getD i 0 ∈ L) (ha : a < (notIn L ss).length) : (notIn L ss).getD a 0 ≠ ss.getD i 0 := fun e => by
  have h := (notIn_mem (x := (notIn L ss).getD a 0) (by rw [getI ha]; exact List.getElem_mem _)).2
  rw [e] at h
  exact h hs
set_option maxRecDepth 100000 in
set_option maxHeartbeats 16000000 in
theorem loose_small (A : Option Addr) (n c : Nat) (AS : Option Addr) (ns cs : Nat) (l : List Pt) (ss : List Int) (W : World) (hl : l.length = n) (hsl : ss.length = ns)
    (hA : RdP W W.heap.size A l) (hS : RdI W W.heap.size AS ss) :
    Calls Try.prog 4 #[.slice A n c, .slice AS ns cs] W fun e W' => e = .returned (.bool true) ∧ Below W.heap.size W W' := by
  have HLN := Lib.hid hl
  have HA := Lib.hid hA
  have HSL := Lib.hid hsl
  have HS := Lib.hid hS
  have HG := Lib.hid (great_any A c l W hA)
  have HR := Lib.hid (fun (w' : World) (h : Below W.heap.size W w') => right_any A c l w' ((hA.below h).more h.size (Nat.le_refl _)))
  have HC := Lib.hid (fun (w' : World) (h : Below W.heap.size W w') => counts_any A c l w' ((hA.below h).more h.size (Nat.le_refl _)) (cnt_len l))
  have HLO := Lib.hid (fun (w' : World) (h : Below W.heap.size W w') (h3 : ns ≤ 1000000) => loose_any A c l AS ns cs ss w' ((hA.below h).more h.size (Nat.le_refl _)) ((hS.below h).more h.size (Nat.le_refl _)) hsl h3)
  rw [hl] at HG HR HC HLO
  clear hl hA hsl hS
  go_enter Try.func4, Try.ntmps4
  go_wp2_with (fail)
  refine HG.out.mono ?_
  rintro e w' ⟨⟨b, rfl, hsm⟩, rfl⟩
  cases b with
  | true =>
    clear hsm
    go_wp2_with (go_at_call 11; refine (awake_any _).mono ?_; rintro e w3 ⟨rfl, hb3⟩)
    go_ret
    exact ⟨rfl, hb3⟩
  | false =>
    clear hsm
    by_cases h3 : ns ≤ 300
    · have h3i : ¬ (300 : Int) < (ns : Int) := by omega
      have h3d : decide ((300 : Int) < (ns : Int)) = false := decide_eq_false h3i
      go_wp2_with ((go_at_call 16; refine Hid.out ?_))
      refine Lib.hid ?_
      refine (HR.out W (Below.refl _ _)).mono ?_
      rintro e w1 ⟨rfl, hb1⟩
      have HB1 := Lib.hid hb1
      clear hb1
      by_cases hr : RightP l
      · rw [rightB_t hr]
        clear hr
        go_wp2_with ((go_at_call 19; refine Hid.out ?_))
        refine Lib.hid ?_
        refine (HC.out w1 HB1.out).mono ?_
        rintro e w2 ⟨v2, nc, z, rfl, hnc, hks, hown2, hb2⟩
        obtain ⟨Az, cz, rfl, hcr2⟩ := CntR.of_own hown2
        have HCR2 := Lib.hid hcr2
        have HKS := Lib.hid hks
        have HB2 := Lib.hid (HB1.out.trans (hb2.mono HB1.out.size))
        clear hks hown2 hb2 hcr2
        go_wp2_with ((go_at_call 20; refine Hid.out ?_))
        refine Lib.hid ?_
        refine (HLO.out w2 HB2.out (by omega)).mono ?_
        rintro e w3 ⟨v3, rfl, hown3, hb3⟩
        obtain ⟨L, hLe⟩ : ∃ L, cntL l = L := ⟨_, rfl⟩
        rw [hLe] at HCR2 HKS hown3
        obtain ⟨X, hX⟩ : ∃ X, notIn L ss = X := ⟨_, rfl⟩
        obtain ⟨Ax, cx, rfl, hrx⟩ := rdI_own hown3 (fun x hx => HS.out.2 x (notIn_mem hx).1)
        rw [hX] at hrx
        have HX := Lib.hid hX
        have HRX := Lib.hid hrx
        have HCR := Lib.hid (HCR2.out.below hb3)
        have HB3 := Lib.hid (HB2.out.trans (hb3.mono HB2.out.size))
        have HSW := Lib.hid (HS.out.below HB3.out)
        rw [hX]
        have hxl : X.length ≤ ns := by rw [← hX, ← HSL.out]; exact notIn_length L ss
        obtain ⟨nx, hnx⟩ : ∃ nx, X.length = nx := ⟨_, rfl⟩
        have HNX := Lib.hid hnx
        rw [hnx] at hxl
        rw [hnx]
        clear hLe hX hown3 hb3 hrx HCR2 hnx HC HLO HR HG
        go_wp2_with (fail)
        go_loopw [7, 8] (fun va vi wr => ∃ i a : Nat, i ≤ ns ∧ vi = .int .i64 i ∧ va = .int .i64 a ∧ a = (notIn L (ss.take i)).length ∧ Below w3.heap.size w3 wr) (fun _ i _ => ns - (intOf i).toNat)
        case atStart => exact ⟨0, 0, Nat.zero_le _, rfl, rfl, rfl, Below.refl _ _⟩
        case round =>
          obtain ⟨i, a, hin, rfl, rfl, ha, hbl⟩ := hrel
          have HAE := Lib.hid ha
          have HBL := Lib.hid hbl
          have hws := hbl.size
          clear ha hbl
          by_cases hi : i < ns
          · have hi0 : (0 : Int) ≤ (i : Int) := by omega
            have hi1 : (i : Int) < (ns : Int) := by omega
            obtain ⟨s, hs⟩ : ∃ s, ss.getD i 0 = s := ⟨_, rfl⟩
            have hswf : (Lit.int .u64 s).wf = true := by rw [← hs]; exact HS.out.2 _ (by rw [getI (by rw [HSL.out]; exact hi)]; exact List.getElem_mem _)
            have HSI := Lib.hid hs
            have HSWF := Lib.hid hswf
            clear hs hswf
            go_wp2_with (fail)
            go_loopw [9, 10] (fun vc vk wr2 => ∃ (cb : Bool) (k : Nat), k ≤ nc ∧ vc = .bool cb ∧ vk = .int .i64 k ∧ (cb = true ↔ ∃ j, j < k ∧ z j = s) ∧ Below w3.heap.size w3 wr2) (fun _ k _ => nc - (intOf k).toNat)
            case atStart => exact ⟨false, 0, Nat.zero_le _, rfl, rfl, ⟨fun h => absurd h (by decide), fun ⟨j, h, _⟩ => absurd h (by omega)⟩, HBL.out⟩
            case round =>
              obtain ⟨cb, k, hkn, rfl, rfl, hcb, hbl2⟩ := hrel
              have HCB := Lib.hid hcb
              have HBL2 := Lib.hid hbl2
              have hws2 := hbl2.size
              clear hcb hbl2
              by_cases hk : k < nc
              · have hk0 : (0 : Int) ≤ (k : Int) := by omega
                have hk1 : (k : Int) < (nc : Int) := by omega
                cases cb with
                | true =>
                  go_wp2_with (fail)
                  refine wp_region_ext (by kernel_rfl) (by kernel_rfl) ?_
                  repeat (first | go_big_quiet_step (fail))
                  refine wpQuiet_nil ?_
                  rintro wq ⟨⟨_, hbx⟩, rfl⟩
                  have HBX := Lib.hid (HBL2.out.trans (hbx.mono hws2))
                  clear hbx
                  go_wp2_with (fail)
                  go_roundw
                  case rel => exact ⟨_, k + 1, by omega, rfl, by first | rfl | (push_cast; rfl) | go_num, ⟨fun _ => by
                    obtain ⟨j, hj, e⟩ := HCB.out.1 (by first | rfl | trivial)
                    exact ⟨j, by omega, e⟩, fun _ => rfl⟩, HBX.out⟩
                  case measure => simp [intOf]; omega
                | false =>
                  obtain ⟨g, rfl, hg, hcells⟩ := HCR.out (by omega)
                  obtain ⟨a0, _⟩ := hcells k hk
                  have a0 := (HBL2.out.cell (p := ⟨g, k * 2, none⟩) hg).trans a0
                  have hgw : g < wr.heap.size := by omega
                  obtain ⟨sb, so, rfl, hsb, _, hsc⟩ := HSW.out.1 (by rw [HSL.out]; omega)
                  have b0 := hsc i (by rw [HSL.out]; exact hi)
                  rw [HSI.out] at b0
                  have hsb3 : sb < w3.heap.size := Nat.lt_of_lt_of_le hsb HB3.out.size
                  have b0 := (HBL2.out.cell (p := ⟨sb, so + i, none⟩) hsb3).trans b0
                  have hsw : sb < wr.heap.size := by omega
                  have rq0 := ext_cell a0
                  have rq1 := ext_cell b0
                  clear hcells hsc
                  go_wp2_with (fail)
                  refine wp_region_ext (by kernel_rfl) (by kernel_rfl) ?_
                  repeat (first | go_big_quiet_step (fail))
                  refine wpQuiet_nil ?_
                  rintro wq ⟨⟨_, hbx⟩, rfl⟩
                  have HBX := Lib.hid (HBL2.out.trans (hbx.mono hws2))
                  clear hbx rq0 rq1 a0 b0
                  go_wp2_with (fail)
                  go_roundw
                  case rel => exact ⟨_, k + 1, by omega, rfl, by first | rfl | (push_cast; rfl) | go_num, ⟨fun h => ⟨k, by omega, by simpa using h⟩, fun ⟨j, hj, e⟩ => by
                    rcases Nat.lt_or_ge j k with h | h
                    · exact absurd (HCB.out.2 ⟨j, h, e⟩) (by simp)
                    · obtain rfl : j = k := by omega
                      simpa using e⟩, HBX.out⟩
                  case measure => simp [intOf]; omega
              · obtain rfl : k = nc := by omega
                have HCL : Hid (cb = true ↔ s ∈ L) := Lib.hid (HCB.out.trans (HKS.out.2.1 ⟨s, HSWF.out⟩))
                have HTK := Lib.hid (take_snocI (l := ss) (i := i) (by rw [HSL.out]; exact hi))
                by_cases hsL : s ∈ L
                · obtain rfl : cb = true := HCL.out.2 hsL
                  have HA1 : Hid (a = (notIn L (ss.take (i + 1))).length) := Lib.hid (by rw [HTK.out, HSI.out, notIn_snoc, if_pos hsL]; exact HAE.out)
                  clear HCB HCL
                  by_cases hax : a < nx
                  · obtain ⟨xb, xo, rfl, hxb, _, hxc⟩ := HRX.out.1 (by rw [HNX.out]; omega)
                    have a0 := hxc a (by rw [HNX.out]; exact hax)
                    obtain ⟨y, hy⟩ : ∃ y, X.getD a 0 = y := ⟨_, rfl⟩
                    rw [hy] at a0
                    have HY := Lib.hid hy
                    have a0 := (HBL2.out.cell (p := ⟨xb, xo + a, none⟩) hxb).trans a0
                    have hxw : xb < wr.heap.size := by omega
                    obtain ⟨sb, so, rfl, hsb, _, hsc⟩ := HSW.out.1 (by rw [HSL.out]; omega)
                    have b0 := hsc i (by rw [HSL.out]; exact hi)
                    rw [HSI.out] at b0
                    have hsb3 : sb < w3.heap.size := Nat.lt_of_lt_of_le hsb HB3.out.size
                    have b0 := (HBL2.out.cell (p := ⟨sb, so + i, none⟩) hsb3).trans b0
                    have hsw : sb < wr.heap.size := by omega
                    have rq0 := ext_cell a0
                    have rq1 := ext_cell b0
                    have haxi : (a : Int) < (nx : Int) := by omega
                    have hax0 : (0 : Int) ≤ (a : Int) := by omega
                    clear hxc hsc hy
                    have hne : y ≠ s := by
                      rw [← HY.out, ← HSI.out, ← HX.out]
                      exact notIn_not (by rw [HSL.out]; exact hi) (by rw [HSI.out]; exact hsL) (by rw [HX.out, HNX.out]; exact hax)
                    have E0 : Hid ((y == s) = false) := Lib.hid (by simp [hne])
                    have E1 : Hid (decide (y = s) = false) := Lib.hid (by simp [hne])
                    clear hne
                    have G0 : Hid (decide ((a : Int) < (nx : Int)) = true) := Lib.hid (decide_eq_true (by omega))
                    have G1 : Hid (decide (a < nx) = true) := Lib.hid (decide_eq_true hax)
                    go_wp2_with (fail)
                    refine wp_region_ext (by kernel_rfl) (by kernel_rfl) ?_
                    repeat (first | rw [G0.out] | rw [G1.out] | rw [E0.out] | rw [E1.out] | go_big_quiet_step (fail))
                    refine wpQuiet_nil ?_
                    rintro wq ⟨⟨_, hbx⟩, rfl⟩
                    have HBX := Lib.hid (HBL2.out.trans (hbx.mono hws2))
                    clear hbx
                    go_wp2_with (fail)
                    go_roundw
                    case rel => exact ⟨i + 1, a, by omega, by first | rfl | (push_cast; rfl) | go_num, rfl, HA1.out, HBX.out⟩
                    case measure => simp [intOf]; omega
                  · have G0 : Hid (decide ((a : Int) < (nx : Int)) = false) := Lib.hid (decide_eq_false (by omega))
                    have G1 : Hid (decide (a < nx) = false) := Lib.hid (decide_eq_false hax)
                    go_wp2_with (fail)
                    refine wp_region_ext (by kernel_rfl) (by kernel_rfl) ?_
                    repeat (first | rw [G0.out] | rw [G1.out] | go_big_quiet_step (fail))
                    refine wpQuiet_nil ?_
                    rintro wq ⟨⟨_, hbx⟩, rfl⟩
                    have HBX := Lib.hid (HBL2.out.trans (hbx.mono hws2))
                    clear hbx
                    go_wp2_with (fail)
                    go_roundw
                    case rel => exact ⟨i + 1, a, by omega, by first | rfl | (push_cast; rfl) | go_num, rfl, HA1.out, HBX.out⟩
                    case measure => simp [intOf]; omega
                · obtain rfl : cb = false := by
                    cases cb with
                    | false => rfl
                    | true => exact absurd (HCL.out.1 rfl) hsL
                  have HA1 : Hid (a + 1 = (notIn L (ss.take (i + 1))).length) := Lib.hid (by rw [HTK.out, HSI.out, notIn_snoc, if_neg hsL, List.length_append, ← HAE.out]; rfl)
                  have hat : a < nx ∧ X.getD a 0 = s := by
                    have h := notIn_at (L := L) (ss := ss) (i := i) (by rw [HSL.out]; exact hi) (by rw [HSI.out]; exact hsL)
                    rw [HX.out, HNX.out, ← HAE.out, HSI.out] at h
                    exact h
                  have hax := hat.1
                  clear HCB HCL
                  obtain ⟨xb, xo, rfl, hxb, _, hxc⟩ := HRX.out.1 (by rw [HNX.out]; omega)
                  have a0 := hxc a (by rw [HNX.out]; exact hax)
                  obtain ⟨y, hy⟩ : ∃ y, X.getD a 0 = y := ⟨_, rfl⟩
                  rw [hy] at a0
                  have HY := Lib.hid hy
                  have a0 := (HBL2.out.cell (p := ⟨xb, xo + a, none⟩) hxb).trans a0
                  have hxw : xb < wr.heap.size := by omega
                  obtain ⟨sb, so, rfl, hsb, _, hsc⟩ := HSW.out.1 (by rw [HSL.out]; omega)
                  have b0 := hsc i (by rw [HSL.out]; exact hi)
                  rw [HSI.out] at b0
                  have hsb3 : sb < w3.heap.size := Nat.lt_of_lt_of_le hsb HB3.out.size
                  have b0 := (HBL2.out.cell (p := ⟨sb, so + i, none⟩) hsb3).trans b0
                  have hsw : sb < wr.heap.size := by omega
                  have rq0 := ext_cell a0
                  have rq1 := ext_cell b0
                  have haxi : (a : Int) < (nx : Int) := by omega
                  have hax0 : (0 : Int) ≤ (a : Int) := by omega
                  clear hxc hsc hy
                  have hee : y = s := by
                    rw [← HY.out]
                    exact hat.2
                  have E0 : Hid ((y == s) = true) := Lib.hid (by simp [hee])
                  have E1 : Hid (decide (y = s) = true) := Lib.hid (by simp [hee])
                  clear hee hat
                  have G0 : Hid (decide ((a : Int) < (nx : Int)) = true) := Lib.hid (decide_eq_true (by omega))
                  have G1 : Hid (decide (a < nx) = true) := Lib.hid (decide_eq_true hax)
                  go_wp2_with (fail)
                  refine wp_region_ext (by kernel_rfl) (by kernel_rfl) ?_
                  repeat (first | rw [G0.out] | rw [G1.out] | rw [E0.out] | rw [E1.out] | go_big_quiet_step (fail))
                  refine wpQuiet_nil ?_
                  rintro wq ⟨⟨_, hbx⟩, rfl⟩
                  have HBX := Lib.hid (HBL2.out.trans (hbx.mono hws2))
                  clear hbx
                  go_wp2_with (fail)
                  go_roundw
                  case rel => exact ⟨i + 1, a + 1, by omega, by first | rfl | (push_cast; rfl) | go_num, by first | rfl | (push_cast; rfl) | go_num, HA1.out, HBX.out⟩
                  case measure => simp [intOf]; omega
          · obtain rfl : i = ns := by omega
            have hae : a = nx := by
              have h := HAE.out
              rw [← HSL.out, List.take_length, HX.out, HNX.out] at h
              exact h
            subst hae
            go_wp2_with (go_at_call 11; refine (awake_any _).mono ?_; rintro e w9 ⟨rfl, hb9⟩)
            go_ret
            exact ⟨rfl, HB3.out.trans (HBL.out.mono (by have := HB3.out.size; omega) |>.trans (hb9.mono (by have := HB3.out.size; omega)))⟩
      · rw [rightB_f hr]
        clear hr
        go_wp2_with (go_at_call 11; refine (awake_any _).mono ?_; rintro e w3 ⟨rfl, hb3⟩)
        go_ret
        exact ⟨rfl, HB1.out.trans (hb3.mono HB1.out.size)⟩
    · have h3i : (300 : Int) < (ns : Int) := by omega
      go_wp2_with (go_at_call 11; refine (awake_any _).mono ?_; rintro e w3 ⟨rfl, hb3⟩)
      go_ret
      exact ⟨rfl, hb3⟩
theorem loose_walk (A : Option Addr) (c : Nat) (l : List Pt) (AS : Option Addr) (cs : Nat) (ss : List Int) (W : World) (o : RdP W W.heap.size A l ∧ l.length ≤ c ∧ l.length ≤ maxLen)
    (o2 : RdI W W.heap.size AS ss ∧ ss.length ≤ cs ∧ ss.length ≤ maxLen) :
    Calls Try.prog 4 #[.slice A l.length c, .slice AS ss.length cs] W fun e w' => e = .returned (.bool true) ∧ Below W.heap.size W w' :=
  loose_small A l.length c AS ss.length cs l ss W rfl rfl o.1 o2.1
end Go.Proofs.Ytmalcekbhnkfgaa
