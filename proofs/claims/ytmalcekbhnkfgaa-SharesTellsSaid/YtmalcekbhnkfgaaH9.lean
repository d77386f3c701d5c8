/- Contracts of order2, median, medianAdjacent. Conditions: as each theorem states them. -/
import Derived.Test.YtmalcekbhnkfgaaH7
namespace Go.Proofs.Ytmalcekbhnkfgaa
open Go.RowKit Go.Maps
set_option linter.unusedVariables false
set_option linter.unusedSimpArgs false

open Go.Shelf in
theorem RowI.kwp {w w' : World} {b n p : Nat} {z : Nat → Int} {v : Value} {t : TypeId} (h : RowI w b n z) (hB : Boxed w p t v) (hv : ∀ x, v ≠ .int .u64 x) (hn : 0 < n) (hk : Kw (fun q => q = p) w w') : RowI w' b n z := by
  have hne : ¬ b = p := by
    rintro rfl
    have e := (h.2 0 hn).1.symm.trans hB.cell
    exact hv _ (Option.some.inj e).symm
  refine ⟨Nat.lt_of_lt_of_le h.1 hk.size, fun i hi => ?_⟩
  obtain ⟨h1, h2⟩ := h.2 i hi
  exact ⟨(hk.cell h.1 hne).trans h1, (hk.frozen h.1 hne).trans h2⟩
open Go.Shelf in
set_option maxRecDepth 100000 in
set_option maxHeartbeats 4000000 in
theorem order2_any (b n cap i j p s : Nat) (z : Nat → Int) (w : World) (hz : RowI w b n z) (hi : i < n) (hj : j < n) (hn : n ≤ 1000000) (hs : s ≤ 1000) (hp : Boxed w p 3 (.int .i64 (s : Nat))) :
    Calls Try.prog 69 #[.slice (some ⟨b, 0, none⟩) n cap, .int .i64 i, .int .i64 j, .pointer (some ⟨p, 0, none⟩)] w fun e w' => ∃ x y s' : Nat, e = .returned (.tuple #[.int .i64 x, .int .i64 y]) ∧ ((x = i ∧ y = j) ∨ (x = j ∧ y = i)) ∧ s' ≤ s + 1 ∧ Boxed w' p 3 (.int .i64 (s' : Nat)) ∧ Kw (fun q => q = p) w w' := by
  have HR := Lib.hid hz
  have HL := Lib.hid less_u
  have HK := Lib.hid (Kw.refl (fun q => q = p) w)
  have HB := Lib.hid hp
  have ui0 : (0 : Int) ≤ (i : Int) := by omega
  have ui1 : (i : Int) < (n : Int) := by omega
  have uj0 : (0 : Int) ≤ (j : Int) := by omega
  have uj1 : (j : Int) < (n : Int) := by omega
  have hbw := hz.1
  clear hz hp
  obtain ⟨xp, hxp⟩ : ∃ x, z (i) = x := ⟨_, rfl⟩
  have HXp := Lib.hid hxp
  clear hxp
  obtain ⟨xq, hxq⟩ : ∃ x, z (j) = x := ⟨_, rfl⟩
  have HXq := Lib.hid hxq
  clear hxq
  go_enter Try.func69, Try.ntmps69
  by_cases hpq : xq < xp
  · obtain ⟨rap, rfp⟩ := HR.out.2 (i) (by omega)
    rw [HXp.out] at rap
    have rqp := ext_cell rap
    obtain ⟨raq, rfq⟩ := HR.out.2 (j) (by omega)
    rw [HXq.out] at raq
    have rqq := ext_cell raq
    have rbw := HR.out.1
    have hd : decide (xq < xp) = true := decide_eq_true hpq
    have HLS : Hid (∀ w, Calls Try.prog 58 #[.int .u64 xq, .int .u64 xp] w fun e w' => e = .returned (.bool true) ∧ w = w') := Lib.hid (fun w => by have h := HL.out xq xp w; rwa [hd] at h)
    clear hd
    go_wp2_with (fail)
    refine wp_region_ext (by kernel_rfl) (by kernel_rfl) ?_
    repeat (first | fail | go_big_quiet_step ((go_at_call 58; exact ext_calls_same (HLS.out _))))
    refine wpQuiet_nil ?_
    rintro w2 ⟨⟨_, hbx⟩, rfl⟩
    have HR2 : Hid (RowI w2 b n z) := Lib.hid (HR.out.below hbx)
    have HK2 := Lib.hid (HK.out.trans (Kw.ofBelow hbx))
    have HBX : Hid (Boxed w2 p 3 (.int .i64 (s : Nat))) := Lib.hid ((hbx.block _ HB.out.lt).trans HB.out)
    clear hbx rbw rap rfp rqp raq rfq rqq HLS
    clear hpq HXp HXq ui0 ui1 uj0 uj1
    have hbc := HBX.out.cell
    have hbf := HBX.out.frozen
    go_wp2_with (fail)
    go_ret2
    refine ⟨j, i, s + 1, rfl, Or.inr ⟨rfl, rfl⟩, Nat.le_refl _, ?_, ?_⟩
    · have h := HBX.out.set (.int .i64 ((s + 1 : Nat) : Int))
      have e : (((s + 1 : Nat) : Int)) = (s : Int) + 1 := by omega
      rw [e] at h
      rw [e]
      exact h
    · exact HK2.out.setCell (p := ⟨p, 0, none⟩) rfl _
  · obtain ⟨rap, rfp⟩ := HR.out.2 (i) (by omega)
    rw [HXp.out] at rap
    have rqp := ext_cell rap
    obtain ⟨raq, rfq⟩ := HR.out.2 (j) (by omega)
    rw [HXq.out] at raq
    have rqq := ext_cell raq
    have rbw := HR.out.1
    have hd : decide (xq < xp) = false := decide_eq_false hpq
    have HLS : Hid (∀ w, Calls Try.prog 58 #[.int .u64 xq, .int .u64 xp] w fun e w' => e = .returned (.bool false) ∧ w = w') := Lib.hid (fun w => by have h := HL.out xq xp w; rwa [hd] at h)
    clear hd
    go_wp2_with (fail)
    refine wp_region_ext (by kernel_rfl) (by kernel_rfl) ?_
    repeat (first | fail | go_big_quiet_step ((go_at_call 58; exact ext_calls_same (HLS.out _))))
    refine wpQuiet_nil ?_
    rintro w2 ⟨⟨_, hbx⟩, rfl⟩
    have HR2 : Hid (RowI w2 b n z) := Lib.hid (HR.out.below hbx)
    have HK2 := Lib.hid (HK.out.trans (Kw.ofBelow hbx))
    have HBX : Hid (Boxed w2 p 3 (.int .i64 (s : Nat))) := Lib.hid ((hbx.block _ HB.out.lt).trans HB.out)
    clear hbx rbw rap rfp rqp raq rfq rqq HLS
    clear hpq HXp HXq ui0 ui1 uj0 uj1
    go_wp2_with (fail)
    go_ret2
    exact ⟨i, j, s, rfl, Or.inl ⟨rfl, rfl⟩, Nat.le_succ _, HBX.out, HK2.out⟩
open Go.Shelf in
set_option maxRecDepth 100000 in
set_option maxHeartbeats 4000000 in
theorem median_any (b n cap i j k p s : Nat) (z : Nat → Int) (w : World) (hz : RowI w b n z) (hi : i < n) (hj : j < n) (hk : k < n) (hn : n ≤ 1000000) (hs : s ≤ 900) (hp : Boxed w p 3 (.int .i64 (s : Nat))) :
    Calls Try.prog 67 #[.slice (some ⟨b, 0, none⟩) n cap, .int .i64 i, .int .i64 j, .int .i64 k, .pointer (some ⟨p, 0, none⟩)] w fun e w' => ∃ x s' : Nat, e = .returned (.int .i64 x) ∧ (x = i ∨ x = j ∨ x = k) ∧ s' ≤ s + 3 ∧ Boxed w' p 3 (.int .i64 (s' : Nat)) ∧ Kw (fun q => q = p) w w' := by
  have HRw := Lib.hid hz
  have HKw := Lib.hid (Kw.refl (fun q => q = p) w)
  have HBw := Lib.hid hp
  clear hz hp
  go_enter Try.func67, Try.ntmps67
  go_wp2_with (fail)
  refine (order2_any b n cap i j p s z w HRw.out (by omega) (by omega) hn (by omega) HBw.out).mono ?_
  rintro e w1 ⟨u1, v1, s1, rfl, hc1, hl1, hbx, hkx⟩
  have HRw1 : Hid (RowI w1 b n z) := Lib.hid (HRw.out.kwp HBw.out (fun _ h => by cases h) (by omega) hkx)
  have HBw1 := Lib.hid hbx
  have HKw1 := Lib.hid (HKw.out.trans hkx)
  have cu1 : u1 < n ∧ v1 < n := by omega
  clear hbx hkx
  go_wp2_with (fail)
  refine (order2_any b n cap v1 k p s1 z w1 HRw1.out (by omega) (by omega) hn (by omega) HBw1.out).mono ?_
  rintro e w2 ⟨u2, v2, s2, rfl, hc2, hl2, hbx, hkx⟩
  have HRw2 : Hid (RowI w2 b n z) := Lib.hid (HRw1.out.kwp HBw1.out (fun _ h => by cases h) (by omega) hkx)
  have HBw2 := Lib.hid hbx
  have HKw2 := Lib.hid (HKw1.out.trans hkx)
  have cu2 : u2 < n ∧ v2 < n := by omega
  clear hbx hkx
  go_wp2_with (fail)
  refine (order2_any b n cap u1 u2 p s2 z w2 HRw2.out (by omega) (by omega) hn (by omega) HBw2.out).mono ?_
  rintro e w3 ⟨u3, v3, s3, rfl, hc3, hl3, hbx, hkx⟩
  have HRw3 : Hid (RowI w3 b n z) := Lib.hid (HRw2.out.kwp HBw2.out (fun _ h => by cases h) (by omega) hkx)
  have HBw3 := Lib.hid hbx
  have HKw3 := Lib.hid (HKw2.out.trans hkx)
  have cu3 : u3 < n ∧ v3 < n := by omega
  clear hbx hkx
  go_wp2_with (fail)
  go_ret
  exact ⟨v3, s3, by go_num, by omega, by omega, HBw3.out, HKw3.out⟩
open Go.Shelf in
set_option maxRecDepth 100000 in
set_option maxHeartbeats 4000000 in
theorem adjacent_any (b n cap i p s : Nat) (z : Nat → Int) (w : World) (hz : RowI w b n z) (hi0 : 0 < i) (hi : i + 1 < n) (hn : n ≤ 1000000) (hs : s ≤ 900) (hp : Boxed w p 3 (.int .i64 (s : Nat))) :
    Calls Try.prog 66 #[.slice (some ⟨b, 0, none⟩) n cap, .int .i64 i, .pointer (some ⟨p, 0, none⟩)] w fun e w' => ∃ x s' : Nat, e = .returned (.int .i64 x) ∧ (i ≤ x + 1 ∧ x ≤ i + 1) ∧ s' ≤ s + 3 ∧ Boxed w' p 3 (.int .i64 (s' : Nat)) ∧ Kw (fun q => q = p) w w' := by
  go_enter Try.func66, Try.ntmps66
  go_wp2_with (fail)
  rw [show (i : Int) - 1 = ((i - 1 : Nat) : Int) by omega, show (i : Int) + 1 = ((i + 1 : Nat) : Int) by omega]
  refine (median_any b n cap (i - 1) i (i + 1) p s z w hz (by omega) (by omega) (by omega) hn hs hp).mono ?_
  rintro e w1 ⟨x, s1, rfl, hc, hl, hb, hk⟩
  go_wp2_with (fail)
  go_ret
  exact ⟨x, s1, by go_num, by omega, hl, hb, hk⟩
end Go.Proofs.Ytmalcekbhnkfgaa
namespace Go.Proofs.Ytmalcekbhnkfgaa
open Go.RowKit Go.Maps
set_option linter.unusedVariables false
set_option linter.unusedSimpArgs false

open Go.Shelf in
set_option maxRecDepth 100000 in
set_option maxHeartbeats 1000000 in
theorem pivot_any (b n cap a m : Nat) (z : Nat → Int) (w : World) (hz : RowI w b n z) (hn : n ≤ 1000000) (hmn : m ≤ n) (ham : a + 13 ≤ m) :
    Calls Try.prog 55 #[.slice (some ⟨b, 0, none⟩) n cap, .int .i64 a, .int .i64 m] w fun e w' => ∃ (x : Nat) (h : Int), e = .returned (.tuple #[.int .i64 x, .int .i64 h]) ∧ (a < x ∧ x + 1 < m) ∧ (h = 0 ∨ h = 1 ∨ h = 2) ∧ Below w.heap.size w w' := by
  obtain ⟨l, hl⟩ : ∃ l, m - a = l := ⟨_, rfl⟩
  obtain ⟨q, hq⟩ : ∃ q, l / 4 = q := ⟨_, rfl⟩
  obtain ⟨i, hi⟩ : ∃ i, a + q = i := ⟨_, rfl⟩
  obtain ⟨j, hj⟩ : ∃ j, a + q * 2 = j := ⟨_, rfl⟩
  obtain ⟨k, hk⟩ : ∃ k, a + q * 3 = k := ⟨_, rfl⟩
  have eml : (m : Int) - (a : Int) = (l : Int) := by omega
  have HQ : Hid ((l : Int) / 4 = (q : Int)) := Lib.hid (by omega)
  have HI : Hid ((a : Int) + (q : Int) = (i : Int)) := Lib.hid (by omega)
  have HJ : Hid ((a : Int) + (q : Int) * 2 = (j : Int)) := Lib.hid (by omega)
  have HKk : Hid ((a : Int) + (q : Int) * 3 = (k : Int)) := Lib.hid (by omega)
  have hl8 : (8 : Int) ≤ (l : Int) := by omega
  have bi : a + 3 ≤ i ∧ i + 3 < m := by omega
  have bj : a + 3 ≤ j ∧ j + 3 < m := by omega
  have bk : a + 3 ≤ k ∧ k + 3 ≤ m := by omega
  have hlm : l + a ≤ m := by omega
  clear hq hl hi hj hk
  have HZ := Lib.hid hz
  clear hz
  go_enter Try.func55, Try.ntmps55
  by_cases hl50 : 50 ≤ l
  · have hl50i : (50 : Int) ≤ (l : Int) := by omega
    go_wp2_with (fail)
    rw [HQ.out, HI.out, HJ.out, HKk.out]
    have HBs : Hid (Boxed (w.alloc (.cells #[.int .i64 0] 3)) w.heap.size 3 (.int .i64 ((0 : Nat) : Int))) := Lib.hid (Boxed.new w 3 _)
    have HBW : Hid (Below w.heap.size w (w.alloc (.cells #[.int .i64 0] 3))) := Lib.hid (bl_alloc (Below.refl _ _) _)
    have HPW : Hid (w.heap.size ≤ (w.alloc (.cells #[.int .i64 0] 3)).heap.size) := Lib.hid HBW.out.size
    have HRv : Hid (RowI (w.alloc (.cells #[.int .i64 0] 3)) b n z) := Lib.hid (HZ.out.below HBW.out)
    generalize w.alloc (.cells #[.int .i64 0] 3) = v at *
    generalize hPe : w.heap.size = P at *
    have HPe := Lib.hid hPe
    clear hPe
    have HBv : Hid (Boxed v P 3 (.int .i64 ((0 : Nat) : Int))) := HBs
    have HKv := Lib.hid (Kw.refl (fun q => q = P) v)
    clear HBs HZ HQ HI HJ HKk
    go_wp2_with (fail)
    refine (adjacent_any b n cap (i) P 0 z v HRv.out (by omega) (by omega) hn (by omega) HBv.out).mono ?_
    rintro e w1 ⟨u1, s1, rfl, hc1, hl1, hbx, hkx⟩
    have HRw1 : Hid (RowI w1 b n z) := Lib.hid (HRv.out.kwp HBv.out (fun _ h => by cases h) (by omega) hkx)
    have HBw1 := Lib.hid hbx
    have HKw1 := Lib.hid (HKv.out.trans hkx)
    clear hbx hkx
    go_wp2_with (fail)
    refine (adjacent_any b n cap (j) P s1 z w1 HRw1.out (by omega) (by omega) hn (by omega) HBw1.out).mono ?_
    rintro e w2 ⟨u2, s2, rfl, hc2, hl2, hbx, hkx⟩
    have HRw2 : Hid (RowI w2 b n z) := Lib.hid (HRw1.out.kwp HBw1.out (fun _ h => by cases h) (by omega) hkx)
    have HBw2 := Lib.hid hbx
    have HKw2 := Lib.hid (HKw1.out.trans hkx)
    clear hbx hkx
    go_wp2_with (fail)
    refine (adjacent_any b n cap (k) P s2 z w2 HRw2.out (by omega) (by omega) hn (by omega) HBw2.out).mono ?_
    rintro e w3 ⟨u3, s3, rfl, hc3, hl3, hbx, hkx⟩
    have HRw3 : Hid (RowI w3 b n z) := Lib.hid (HRw2.out.kwp HBw2.out (fun _ h => by cases h) (by omega) hkx)
    have HBw3 := Lib.hid hbx
    have HKw3 := Lib.hid (HKw2.out.trans hkx)
    clear hbx hkx
    go_wp2_with (fail)
    refine (median_any b n cap (u1) (u2) (u3) P s3 z w3 HRw3.out (by omega) (by omega) (by omega) hn (by omega) HBw3.out).mono ?_
    rintro e w4 ⟨x, s4, rfl, hcx, hlx, hbx, hkx⟩
    have HBw4 := Lib.hid hbx
    have HKw4 := Lib.hid (HKw3.out.trans hkx)
    clear hbx hkx
    have hbl : Below P w w4 := HBW.out.trans (HKw4.out.below HPW.out (fun b hb => by subst hb; exact Nat.le_refl _))
    have HBL := Lib.hid hbl
    clear hbl
    have hbc := HBw4.out.cell
    by_cases hs0 : s4 = 0
    · subst hs0
      clear hlx
      go_wp2_with (fail)
      go_ret2
      exact ⟨x, 1, rfl, by omega, by omega, by rw [HPe.out]; exact HBL.out⟩
    · by_cases hs12 : s4 = 12
      · subst hs12
        clear hlx
        go_wp2_with (fail)
        go_ret2
        exact ⟨x, 2, rfl, by omega, by omega, by rw [HPe.out]; exact HBL.out⟩
      · have hi0 : ¬ ((s4 : Nat) : Int) = 0 := by omega
        have hi12 : ¬ ((s4 : Nat) : Int) = 12 := by omega
        clear hlx
        go_wp2_with (fail)
        go_ret2
        exact ⟨x, 0, rfl, by omega, by omega, by rw [HPe.out]; exact HBL.out⟩
  · have hl50i : (l : Int) < 50 := by omega
    go_wp2_with (fail)
    rw [HQ.out, HI.out, HJ.out, HKk.out]
    have HBs : Hid (Boxed (w.alloc (.cells #[.int .i64 0] 3)) w.heap.size 3 (.int .i64 ((0 : Nat) : Int))) := Lib.hid (Boxed.new w 3 _)
    have HBW : Hid (Below w.heap.size w (w.alloc (.cells #[.int .i64 0] 3))) := Lib.hid (bl_alloc (Below.refl _ _) _)
    have HPW : Hid (w.heap.size ≤ (w.alloc (.cells #[.int .i64 0] 3)).heap.size) := Lib.hid HBW.out.size
    have HRv : Hid (RowI (w.alloc (.cells #[.int .i64 0] 3)) b n z) := Lib.hid (HZ.out.below HBW.out)
    generalize w.alloc (.cells #[.int .i64 0] 3) = v at *
    generalize hPe : w.heap.size = P at *
    have HPe := Lib.hid hPe
    clear hPe
    have HBv : Hid (Boxed v P 3 (.int .i64 ((0 : Nat) : Int))) := HBs
    have HKv := Lib.hid (Kw.refl (fun q => q = P) v)
    clear HBs HZ HQ HI HJ HKk
    go_wp2_with (fail)
    refine (median_any b n cap (i) (j) (k) P 0 z v HRv.out (by omega) (by omega) (by omega) hn (by omega) HBv.out).mono ?_
    rintro e w4 ⟨x, s4, rfl, hcx, hlx, hbx, hkx⟩
    have HBw4 := Lib.hid hbx
    have HKw4 := Lib.hid (HKv.out.trans hkx)
    clear hbx hkx
    have hbl : Below P w w4 := HBW.out.trans (HKw4.out.below HPW.out (fun b hb => by subst hb; exact Nat.le_refl _))
    have HBL := Lib.hid hbl
    clear hbl
    have hbc := HBw4.out.cell
    by_cases hs0 : s4 = 0
    · subst hs0
      clear hlx
      go_wp2_with (fail)
      go_ret2
      exact ⟨x, 1, rfl, by omega, by omega, by rw [HPe.out]; exact HBL.out⟩
    · by_cases hs12 : s4 = 12
      · subst hs12
        clear hlx
        go_wp2_with (fail)
        go_ret2
        exact ⟨x, 2, rfl, by omega, by omega, by rw [HPe.out]; exact HBL.out⟩
      · have hi0 : ¬ ((s4 : Nat) : Int) = 0 := by omega
        have hi12 : ¬ ((s4 : Nat) : Int) = 12 := by omega
        clear hlx
        go_wp2_with (fail)
        go_ret2
        exact ⟨x, 0, rfl, by omega, by omega, by rw [HPe.out]; exact HBL.out⟩
end Go.Proofs.Ytmalcekbhnkfgaa
