/- Contract of partitionEqual. Conditions: as each theorem states them. -/
import Derived.Test.YtmalcekbhnkfgaaH5
namespace Go.Proofs.Ytmalcekbhnkfgaa
open Go.RowKit Go.Maps
set_option linter.unusedVariables false
set_option linter.unusedSimpArgs false

/-- None behind a and ahead of i is greater than the one at a. -/
def LoE (z : Nat → Int) (a i : Nat) : Prop := ∀ k, a < k → k < i → z k ≤ z a
/-- All behind j are greater than the one at a. -/
def HiE (z : Nat → Int) (a m j : Nat) : Prop := ∀ k, j < k → k < m → z a < z k
theorem LoE.swap {z : Nat → Int} {a i j : Nat} (h : LoE z a i) (hai : a < i) (hij : i < j) (hj : z j ≤ z a) : LoE (sw2 z i j) a (i + 1) := fun k h1 h2 => by
  rw [sw2_other z (show a ≠ i by omega) (show a ≠ j by omega)]
  by_cases hk : k = i
  · rw [hk, sw2_left]; exact hj
  · rw [sw2_other z hk (by omega)]
    exact h k h1 (by omega)
theorem HiE.swap {z : Nat → Int} {a m i j : Nat} (h : HiE z a m j) (hai : a < i) (hij : i < j) (hi : z a < z i) : HiE (sw2 z i j) a m (j - 1) := fun k h1 h2 => by
  rw [sw2_other z (show a ≠ i by omega) (show a ≠ j by omega)]
  by_cases hk : k = j
  · rw [hk, sw2_right]; exact hi
  · rw [sw2_other z (by omega) hk]
    exact h k (by omega) h2
/-- What partitionEqual answers. -/
def PartE (w : World) (b n a m piv : Nat) (z0 : Nat → Int) (e : Ending) (w' : World) : Prop := ∃ (mid : Nat) (z : Nat → Int), e = .returned (.int .i64 mid) ∧ RowI w' b n z ∧ Sw a m z0 z ∧ a < mid ∧ mid ≤ m ∧ ((∀ k, a ≤ k → k < mid → z k ≤ z a) ∧ ∀ k, mid ≤ k → k < m → z a < z k) ∧ z a = z0 piv ∧ Kw (fun x => x = b) w w'
set_option maxRecDepth 100000 in
set_option maxHeartbeats 32000000 in
theorem partitionE_ne (b n cap a m piv : Nat) (z0 : Nat → Int) (w : World) (hz : RowI w b n z0) (hn : n ≤ 1000000) (hnc : n ≤ cap) (hmn : m ≤ n) (hap : a < piv) (hpm : piv < m) :
    Calls Try.prog 59 #[.slice (some ⟨b, 0, none⟩) n cap, .int .i64 a, .int .i64 m, .int .i64 piv] w (PartE w b n a m piv z0) := by
  have HZ := Lib.hid hz
  have HL := Lib.hid less_u
  have HKW := Lib.hid (Kw.refl (fun x => x = b) w)
  have HP0 : Hid (Sw a m z0 z0) := Lib.hid .refl
  obtain ⟨j0, hj0⟩ : ∃ j0 : Nat, j0 + 1 = m := ⟨m - 1, by omega⟩
  have hjm : (m : Int) - 1 = (j0 : Int) := by omega
  have ua0 : (0 : Int) ≤ (a : Int) := by omega
  have ua1 : (a : Int) < (n : Int) := by omega
  have up0 : (0 : Int) ≤ (piv : Int) := by omega
  have up1 : (piv : Int) < (n : Int) := by omega
  have hne : ¬ a = piv := by omega
  have HJ0 := Lib.hid hj0
  clear hz hj0
  go_enter Try.func59, Try.ntmps59
  obtain ⟨sa0, sf0⟩ := HZ.out.2 (a) (by omega)
  obtain ⟨sa1, sf1⟩ := HZ.out.2 (piv) (by omega)
  have sbw := HZ.out.1
  obtain ⟨sx, hsx⟩ : ∃ x, z0 (a) = x := ⟨_, rfl⟩
  obtain ⟨sy, hsy⟩ : ∃ y, z0 (piv) = y := ⟨_, rfl⟩
  rw [hsx] at sa0
  rw [hsy] at sa1
  have HSX := Lib.hid hsx
  have HSY := Lib.hid hsy
  clear hsx hsy
  go_wp2_with (fail)
  go_region
  have HR7 : Hid (RowI (((w.setCell ⟨b, a, none⟩ (.int .u64 sy)).setCell ⟨b, piv, none⟩ (.int .u64 sx)).drew) b n (sw2 z0 (a) (piv))) := Lib.hid (by
    have h := HZ.out.sw2 (i := a) (j := piv) (by omega) (by omega)
    rw [HSX.out, HSY.out] at h
    exact h)
  have HK7 : Hid (Kw (fun x => x = b) w (((w.setCell ⟨b, a, none⟩ (.int .u64 sy)).setCell ⟨b, piv, none⟩ (.int .u64 sx)).drew)) := Lib.hid (((HKW.out.setCell (p := ⟨b, a, none⟩) rfl _).setCell (p := ⟨b, piv, none⟩) rfl _).drew)
  have HP7 : Hid (Sw a m z0 (sw2 z0 (a) (piv))) := Lib.hid (.step (a) (piv) (by omega) (by omega) HP0.out)
  clear sa0 sf0 sa1 sf1 sbw
  generalize (((w.setCell ⟨b, a, none⟩ (.int .u64 sy)).setCell ⟨b, piv, none⟩ (.int .u64 sx)).drew) = w7 at *
  have HA7 : Hid (sw2 z0 a piv a = z0 piv) := Lib.hid (sw2_left z0 a piv)
  generalize sw2 z0 a piv = z1 at *
  have hj0m : j0 < m := by have := HJ0.out; omega
  have hj0a : a < j0 + 1 := by omega
  have hmj : m ≤ j0 + 1 := by have := HJ0.out; omega
  clear ua0 up0 up1 hne
  go_wp2_with (fail)
  go_loopw [9, 10] (fun vi vj wr => ∃ (i j : Nat) (z : Nat → Int), a + 1 ≤ i ∧ i ≤ j + 1 ∧ j < m ∧ vi = .int .i64 i ∧ vj = .int .i64 j ∧ LoE z a i ∧ HiE z a m j ∧ RowI wr b n z ∧ Sw a m z0 z ∧ z a = z0 piv ∧ Kw (fun x => x = b) w wr) (fun i j _ => (intOf j + 1 - intOf i).toNat)
  case atStart => exact ⟨a + 1, j0, z1, by omega, by omega, by omega, by first | rfl | (push_cast; rfl) | go_num, rfl, (fun k h1 h2 => by omega), (fun k h1 h2 => by omega), HR7.out, HP7.out, HA7.out, HK7.out⟩
  case round =>
    obtain ⟨i2, j2, z2, hi2, hij2, hj2, rfl, rfl, hlo, hhi, hr, hp, ha, hk⟩ := hrel
    have HLZ := Lib.hid hlo
    have HHZ := Lib.hid hhi
    have HRZ := Lib.hid hr
    have HPZ := Lib.hid hp
    have HAZ := Lib.hid ha
    have HKZ := Lib.hid hk
    clear hlo hhi hr hp ha hk
    go_wp2_with (fail)
    go_loopw [9] (fun vi wr => ∃ i : Nat, i2 ≤ i ∧ i ≤ j2 + 1 ∧ vi = .int .i64 i ∧ LoE z2 a i ∧ RowI wr b n z2 ∧ Kw (fun x => x = b) w wr) (fun i _ => n + 1 - (intOf i).toNat)
    case atStart => exact ⟨i2, by omega, by omega, by first | rfl | (push_cast; rfl) | go_num, HLZ.out, HRZ.out, HKZ.out⟩
    case round =>
      obtain ⟨i3, hai3, hij3, rfl, hlo, hr, hk⟩ := hrel
      have HLO3 := Lib.hid hlo
      have HRI3 := Lib.hid hr
      have HKI3 := Lib.hid hk
      clear hlo hr hk
      by_cases hle3 : i3 ≤ j2
      · have G0 : Hid (decide ((i3 : Int) ≤ (j2 : Int)) = true) := Lib.hid (decide_eq_true (by omega))
        have G1 : Hid (decide (i3 ≤ j2) = true) := Lib.hid (decide_eq_true hle3)
        have ui0 : (0 : Int) ≤ (i3 : Int) := by omega
        have ui1 : (i3 : Int) < (n : Int) := by omega
        obtain ⟨xp, hxp⟩ : ∃ x, z2 (i3) = x := ⟨_, rfl⟩
        have HXp := Lib.hid hxp
        clear hxp
        obtain ⟨xq, hxq⟩ : ∃ x, z2 (a) = x := ⟨_, rfl⟩
        have HXq := Lib.hid hxq
        clear hxq
        by_cases hpq : xq < xp
        · have HNI3 : Hid (z2 a < z2 i3) := Lib.hid (by rw [HXp.out, HXq.out]; exact hpq)
          obtain ⟨rap, rfp⟩ := HRI3.out.2 (i3) (by omega)
          rw [HXp.out] at rap
          have rqp := ext_cell rap
          obtain ⟨raq, rfq⟩ := HRI3.out.2 (a) (by omega)
          rw [HXq.out] at raq
          have rqq := ext_cell raq
          have rbw := HRI3.out.1
          have hd : decide (xq < xp) = true := decide_eq_true hpq
          have HLS : Hid (∀ w, Calls Try.prog 58 #[.int .u64 xq, .int .u64 xp] w fun e w' => e = .returned (.bool true) ∧ w = w') := Lib.hid (fun w => by have h := HL.out xq xp w; rwa [hd] at h)
          clear hd
          go_wp2_with (fail)
          refine wp_region_ext (by kernel_rfl) (by kernel_rfl) ?_
          repeat (first | rw [G0.out] | rw [G1.out] | go_big_quiet_step ((go_at_call 58; exact ext_calls_same (HLS.out _))))
          refine wpQuiet_nil ?_
          rintro w23 ⟨⟨_, hbx⟩, rfl⟩
          have HR23 : Hid (RowI w23 b n z2) := Lib.hid (HRI3.out.below hbx)
          have HK23 := Lib.hid (HKI3.out.trans (Kw.ofBelow hbx))
          clear hbx rbw rap rfp rqp raq rfq rqq HLS
          clear hpq ui0 ui1 G0 G1 HXp HXq
          go_wp2_with (fail)
          go_loopw [10] (fun vj wr => ∃ j : Nat, i3 ≤ j + 1 ∧ j ≤ j2 ∧ vj = .int .i64 j ∧ HiE z2 a m j ∧ RowI wr b n z2 ∧ Kw (fun x => x = b) w wr) (fun j _ => (intOf j).toNat)
          case atStart => exact ⟨j2, by omega, by omega, rfl, HHZ.out, HR23.out, HK23.out⟩
          case round =>
            obtain ⟨j3, hji3, hjm3, rfl, hhi, hr, hk⟩ := hrel
            have HHI3 := Lib.hid hhi
            have HRJ3 := Lib.hid hr
            have HKJ3 := Lib.hid hk
            clear hhi hr hk
            by_cases hle23 : i3 ≤ j3
            · have G0 : Hid (decide ((i3 : Int) ≤ (j3 : Int)) = true) := Lib.hid (decide_eq_true (by omega))
              have G1 : Hid (decide (i3 ≤ j3) = true) := Lib.hid (decide_eq_true hle23)
              have uj0 : (0 : Int) ≤ (j3 : Int) := by omega
              have uj1 : (j3 : Int) < (n : Int) := by omega
              obtain ⟨xp, hxp⟩ : ∃ x, z2 (j3) = x := ⟨_, rfl⟩
              have HXp := Lib.hid hxp
              clear hxp
              obtain ⟨xq, hxq⟩ : ∃ x, z2 (a) = x := ⟨_, rfl⟩
              have HXq := Lib.hid hxq
              clear hxq
              by_cases hpq : xq < xp
              · have HV : Hid (HiE z2 a m (j3 - 1)) := Lib.hid (fun k h1 h2 => by
                  by_cases hk : k = j3
                  · rw [hk, HXp.out, HXq.out]; exact hpq
                  · exact HHI3.out k (by omega) h2)
                obtain ⟨rap, rfp⟩ := HRJ3.out.2 (j3) (by omega)
                rw [HXp.out] at rap
                have rqp := ext_cell rap
                obtain ⟨raq, rfq⟩ := HRJ3.out.2 (a) (by omega)
                rw [HXq.out] at raq
                have rqq := ext_cell raq
                have rbw := HRJ3.out.1
                have hd : decide (xq < xp) = true := decide_eq_true hpq
                have HLS : Hid (∀ w, Calls Try.prog 58 #[.int .u64 xq, .int .u64 xp] w fun e w' => e = .returned (.bool true) ∧ w = w') := Lib.hid (fun w => by have h := HL.out xq xp w; rwa [hd] at h)
                clear hd
                go_wp2_with (fail)
                refine wp_region_ext (by kernel_rfl) (by kernel_rfl) ?_
                repeat (first | rw [G0.out] | rw [G1.out] | go_big_quiet_step ((go_at_call 58; exact ext_calls_same (HLS.out _))))
                refine wpQuiet_nil ?_
                rintro w2 ⟨⟨_, hbx⟩, rfl⟩
                have HR2 : Hid (RowI w2 b n z2) := Lib.hid (HRJ3.out.below hbx)
                have HK2 := Lib.hid (HKJ3.out.trans (Kw.ofBelow hbx))
                clear hbx rbw rap rfp rqp raq rfq rqq HLS
                clear hpq uj0 uj1
                have hje : ((j3 - 1 : Nat) : Int) = (j3 : Int) - 1 := by omega
                have HJE := Lib.hid hje
                clear hje
                go_wp2_with (fail)
                go_roundw
                case rel => exact ⟨j3 - 1, by omega, by omega, by rw [HJE.out], HV.out, HR2.out, HK2.out⟩
                case measure => simp [intOf]; omega
              · have HNJ3 : Hid (z2 j3 ≤ z2 a) := Lib.hid (by rw [HXp.out, HXq.out]; omega)
                obtain ⟨rap, rfp⟩ := HRJ3.out.2 (j3) (by omega)
                rw [HXp.out] at rap
                have rqp := ext_cell rap
                obtain ⟨raq, rfq⟩ := HRJ3.out.2 (a) (by omega)
                rw [HXq.out] at raq
                have rqq := ext_cell raq
                have rbw := HRJ3.out.1
                have hd : decide (xq < xp) = false := decide_eq_false hpq
                have HLS : Hid (∀ w, Calls Try.prog 58 #[.int .u64 xq, .int .u64 xp] w fun e w' => e = .returned (.bool false) ∧ w = w') := Lib.hid (fun w => by have h := HL.out xq xp w; rwa [hd] at h)
                clear hd
                go_wp2_with (fail)
                refine wp_region_ext (by kernel_rfl) (by kernel_rfl) ?_
                repeat (first | rw [G0.out] | rw [G1.out] | go_big_quiet_step ((go_at_call 58; exact ext_calls_same (HLS.out _))))
                refine wpQuiet_nil ?_
                rintro w43 ⟨⟨_, hbx⟩, rfl⟩
                have HR43 : Hid (RowI w43 b n z2) := Lib.hid (HRJ3.out.below hbx)
                have HK43 := Lib.hid (HKJ3.out.trans (Kw.ofBelow hbx))
                clear hbx rbw rap rfp rqp raq rfq rqq HLS
                clear hpq uj0 uj1 G0 G1 HXp HXq
                have hgt : ¬ (j3 : Int) < (i3 : Int) := by omega
                have hltij : i3 < j3 := by
                  rcases Nat.lt_or_ge i3 j3 with h | h
                  · exact h
                  · have e : i3 = j3 := by omega
                    have h1 := HNI3.out
                    have h2 := HNJ3.out
                    rw [e] at h1
                    omega
                have hne : ¬ i3 = j3 := by omega
                have ui0 : (0 : Int) ≤ (i3 : Int) := by omega
                have ui1 : (i3 : Int) < (n : Int) := by omega
                have uj0 : (0 : Int) ≤ (j3 : Int) := by omega
                have uj1 : (j3 : Int) < (n : Int) := by omega
                obtain ⟨sa0, sf0⟩ := HR43.out.2 (i3) (by omega)
                obtain ⟨sa1, sf1⟩ := HR43.out.2 (j3) (by omega)
                have sbw := HR43.out.1
                obtain ⟨sx, hsx⟩ : ∃ x, z2 (i3) = x := ⟨_, rfl⟩
                obtain ⟨sy, hsy⟩ : ∃ y, z2 (j3) = y := ⟨_, rfl⟩
                rw [hsx] at sa0
                rw [hsy] at sa1
                have HSX := Lib.hid hsx
                have HSY := Lib.hid hsy
                clear hsx hsy
                go_wp2_with (fail)
                go_region
                have HR8 : Hid (RowI (((w43.setCell ⟨b, i3, none⟩ (.int .u64 sy)).setCell ⟨b, j3, none⟩ (.int .u64 sx)).drew) b n (sw2 z2 (i3) (j3))) := Lib.hid (by
                  have h := HR43.out.sw2 (i := i3) (j := j3) (by omega) (by omega)
                  rw [HSX.out, HSY.out] at h
                  exact h)
                have HK8 : Hid (Kw (fun x => x = b) w (((w43.setCell ⟨b, i3, none⟩ (.int .u64 sy)).setCell ⟨b, j3, none⟩ (.int .u64 sx)).drew)) := Lib.hid (((HK43.out.setCell (p := ⟨b, i3, none⟩) rfl _).setCell (p := ⟨b, j3, none⟩) rfl _).drew)
                have HP8 : Hid (Sw a m z0 (sw2 z2 (i3) (j3))) := Lib.hid (.step (i3) (j3) (by omega) (by omega) HPZ.out)
                clear sa0 sf0 sa1 sf1 sbw
                generalize (((w43.setCell ⟨b, i3, none⟩ (.int .u64 sy)).setCell ⟨b, j3, none⟩ (.int .u64 sx)).drew) = w8 at *
                have HA8 : Hid (sw2 z2 i3 j3 a = z0 piv) := Lib.hid ((sw2_other z2 (by omega) (by omega)).trans HAZ.out)
                have HL8 : Hid (LoE (sw2 z2 i3 j3) a (i3 + 1)) := Lib.hid (HLO3.out.swap (by omega) hltij HNJ3.out)
                have HH8 : Hid (HiE (sw2 z2 i3 j3) a m (j3 - 1)) := Lib.hid (HHI3.out.swap (by omega) hltij HNI3.out)
                have hje : ((j3 - 1 : Nat) : Int) = (j3 : Int) - 1 := by omega
                have HJE := Lib.hid hje
                clear hje ui0 ui1 uj0 uj1 hne
                go_wp2_with (fail)
                go_roundw
                case rel => exact ⟨i3 + 1, j3 - 1, _, by omega, by omega, by omega, by first | rfl | (push_cast; rfl) | go_num, by rw [HJE.out], HL8.out, HH8.out, HR8.out, HP8.out, HA8.out, HK8.out⟩
                case measure => simp [intOf]; omega
            · have G0 : Hid (decide ((i3 : Int) ≤ (j3 : Int)) = false) := Lib.hid (decide_eq_false (by omega))
              have G1 : Hid (decide (i3 ≤ j3) = false) := Lib.hid (decide_eq_false hle23)
              have rbw := HRJ3.out.1
              go_wp2_with (fail)
              refine wp_region_ext (by kernel_rfl) (by kernel_rfl) ?_
              repeat (first | rw [G0.out] | rw [G1.out] | go_big_quiet_step (fail))
              refine wpQuiet_nil ?_
              rintro w43 ⟨⟨_, hbx⟩, rfl⟩
              have HR43 : Hid (RowI w43 b n z2) := Lib.hid (HRJ3.out.below hbx)
              have HK43 := Lib.hid (HKJ3.out.trans (Kw.ofBelow hbx))
              clear hbx rbw
              clear G0 G1
              have hgt : (j3 : Int) < (i3 : Int) := by omega
              have hie : Hid (i3 = j3 + 1) := Lib.hid (by omega)
              have HQ : Hid ((∀ k, a ≤ k → k < i3 → z2 k ≤ z2 a) ∧ ∀ k, i3 ≤ k → k < m → z2 a < z2 k) := Lib.hid ⟨fun k h1 h2 => by
                by_cases hk : k = a
                · rw [hk]; exact Int.le_refl _
                · exact HLO3.out k (by omega) h2, fun k h1 h2 => HHI3.out k (by have := hie.out; omega) h2⟩
              go_wp2_with (fail)
              go_ret
              exact ⟨i3, z2, rfl, HR43.out, HPZ.out, by omega, by have := hie.out; omega, HQ.out, HAZ.out, HK43.out⟩
        · have HV : Hid (LoE z2 a (i3 + 1)) := Lib.hid (fun k h1 h2 => by
            by_cases hk : k = i3
            · rw [hk, HXp.out, HXq.out]; omega
            · exact HLO3.out k h1 (by omega))
          obtain ⟨rap, rfp⟩ := HRI3.out.2 (i3) (by omega)
          rw [HXp.out] at rap
          have rqp := ext_cell rap
          obtain ⟨raq, rfq⟩ := HRI3.out.2 (a) (by omega)
          rw [HXq.out] at raq
          have rqq := ext_cell raq
          have rbw := HRI3.out.1
          have hd : decide (xq < xp) = false := decide_eq_false hpq
          have HLS : Hid (∀ w, Calls Try.prog 58 #[.int .u64 xq, .int .u64 xp] w fun e w' => e = .returned (.bool false) ∧ w = w') := Lib.hid (fun w => by have h := HL.out xq xp w; rwa [hd] at h)
          clear hd
          go_wp2_with (fail)
          refine wp_region_ext (by kernel_rfl) (by kernel_rfl) ?_
          repeat (first | rw [G0.out] | rw [G1.out] | go_big_quiet_step ((go_at_call 58; exact ext_calls_same (HLS.out _))))
          refine wpQuiet_nil ?_
          rintro w2 ⟨⟨_, hbx⟩, rfl⟩
          have HR2 : Hid (RowI w2 b n z2) := Lib.hid (HRI3.out.below hbx)
          have HK2 := Lib.hid (HKI3.out.trans (Kw.ofBelow hbx))
          clear hbx rbw rap rfp rqp raq rfq rqq HLS
          clear hpq ui0 ui1
          go_wp2_with (fail)
          go_roundw
          case rel => exact ⟨i3 + 1, by omega, by omega, by first | rfl | (push_cast; rfl) | go_num, HV.out, HR2.out, HK2.out⟩
          case measure => simp [intOf]; omega
      · have G0 : Hid (decide ((i3 : Int) ≤ (j2 : Int)) = false) := Lib.hid (decide_eq_false (by omega))
        have G1 : Hid (decide (i3 ≤ j2) = false) := Lib.hid (decide_eq_false hle3)
        have rbw := HRI3.out.1
        go_wp2_with (fail)
        refine wp_region_ext (by kernel_rfl) (by kernel_rfl) ?_
        repeat (first | rw [G0.out] | rw [G1.out] | go_big_quiet_step (fail))
        refine wpQuiet_nil ?_
        rintro w23 ⟨⟨_, hbx⟩, rfl⟩
        have HR23 : Hid (RowI w23 b n z2) := Lib.hid (HRI3.out.below hbx)
        have HK23 := Lib.hid (HKI3.out.trans (Kw.ofBelow hbx))
        clear hbx rbw
        clear G0 G1
        go_wp2_with (fail)
        go_loopw [10] (fun vj wr => ∃ j : Nat, i3 ≤ j + 1 ∧ j ≤ j2 ∧ vj = .int .i64 j ∧ HiE z2 a m j ∧ RowI wr b n z2 ∧ Kw (fun x => x = b) w wr) (fun j _ => (intOf j).toNat)
        case atStart => exact ⟨j2, by omega, by omega, rfl, HHZ.out, HR23.out, HK23.out⟩
        case round =>
          obtain ⟨j3, hji3, hjm3, rfl, hhi, hr, hk⟩ := hrel
          have HHI3 := Lib.hid hhi
          have HRJ3 := Lib.hid hr
          have HKJ3 := Lib.hid hk
          clear hhi hr hk
          by_cases hle23 : i3 ≤ j3
          · have G0 : Hid (decide ((i3 : Int) ≤ (j3 : Int)) = true) := Lib.hid (decide_eq_true (by omega))
            have G1 : Hid (decide (i3 ≤ j3) = true) := Lib.hid (decide_eq_true hle23)
            have uj0 : (0 : Int) ≤ (j3 : Int) := by omega
            have uj1 : (j3 : Int) < (n : Int) := by omega
            obtain ⟨xp, hxp⟩ : ∃ x, z2 (j3) = x := ⟨_, rfl⟩
            have HXp := Lib.hid hxp
            clear hxp
            obtain ⟨xq, hxq⟩ : ∃ x, z2 (a) = x := ⟨_, rfl⟩
            have HXq := Lib.hid hxq
            clear hxq
            by_cases hpq : xq < xp
            · have HV : Hid (HiE z2 a m (j3 - 1)) := Lib.hid (fun k h1 h2 => by
                by_cases hk : k = j3
                · rw [hk, HXp.out, HXq.out]; exact hpq
                · exact HHI3.out k (by omega) h2)
              obtain ⟨rap, rfp⟩ := HRJ3.out.2 (j3) (by omega)
              rw [HXp.out] at rap
              have rqp := ext_cell rap
              obtain ⟨raq, rfq⟩ := HRJ3.out.2 (a) (by omega)
              rw [HXq.out] at raq
              have rqq := ext_cell raq
              have rbw := HRJ3.out.1
              have hd : decide (xq < xp) = true := decide_eq_true hpq
              have HLS : Hid (∀ w, Calls Try.prog 58 #[.int .u64 xq, .int .u64 xp] w fun e w' => e = .returned (.bool true) ∧ w = w') := Lib.hid (fun w => by have h := HL.out xq xp w; rwa [hd] at h)
              clear hd
              go_wp2_with (fail)
              refine wp_region_ext (by kernel_rfl) (by kernel_rfl) ?_
              repeat (first | rw [G0.out] | rw [G1.out] | go_big_quiet_step ((go_at_call 58; exact ext_calls_same (HLS.out _))))
              refine wpQuiet_nil ?_
              rintro w2 ⟨⟨_, hbx⟩, rfl⟩
              have HR2 : Hid (RowI w2 b n z2) := Lib.hid (HRJ3.out.below hbx)
              have HK2 := Lib.hid (HKJ3.out.trans (Kw.ofBelow hbx))
              clear hbx rbw rap rfp rqp raq rfq rqq HLS
              clear hpq uj0 uj1
              have hje : ((j3 - 1 : Nat) : Int) = (j3 : Int) - 1 := by omega
              have HJE := Lib.hid hje
              clear hje
              go_wp2_with (fail)
              go_roundw
              case rel => exact ⟨j3 - 1, by omega, by omega, by rw [HJE.out], HV.out, HR2.out, HK2.out⟩
              case measure => simp [intOf]; omega
            · have HNJ3 : Hid (z2 j3 ≤ z2 a) := Lib.hid (by rw [HXp.out, HXq.out]; omega)
              obtain ⟨rap, rfp⟩ := HRJ3.out.2 (j3) (by omega)
              rw [HXp.out] at rap
              have rqp := ext_cell rap
              obtain ⟨raq, rfq⟩ := HRJ3.out.2 (a) (by omega)
              rw [HXq.out] at raq
              have rqq := ext_cell raq
              have rbw := HRJ3.out.1
              have hd : decide (xq < xp) = false := decide_eq_false hpq
              have HLS : Hid (∀ w, Calls Try.prog 58 #[.int .u64 xq, .int .u64 xp] w fun e w' => e = .returned (.bool false) ∧ w = w') := Lib.hid (fun w => by have h := HL.out xq xp w; rwa [hd] at h)
              clear hd
              go_wp2_with (fail)
              refine wp_region_ext (by kernel_rfl) (by kernel_rfl) ?_
              repeat (first | rw [G0.out] | rw [G1.out] | go_big_quiet_step ((go_at_call 58; exact ext_calls_same (HLS.out _))))
              refine wpQuiet_nil ?_
              rintro w43 ⟨⟨_, hbx⟩, rfl⟩
              have HR43 : Hid (RowI w43 b n z2) := Lib.hid (HRJ3.out.below hbx)
              have HK43 := Lib.hid (HKJ3.out.trans (Kw.ofBelow hbx))
              clear hbx rbw rap rfp rqp raq rfq rqq HLS
              clear hpq uj0 uj1 G0 G1 HXp HXq
              exfalso
              omega
          · have G0 : Hid (decide ((i3 : Int) ≤ (j3 : Int)) = false) := Lib.hid (decide_eq_false (by omega))
            have G1 : Hid (decide (i3 ≤ j3) = false) := Lib.hid (decide_eq_false hle23)
            have rbw := HRJ3.out.1
            go_wp2_with (fail)
            refine wp_region_ext (by kernel_rfl) (by kernel_rfl) ?_
            repeat (first | rw [G0.out] | rw [G1.out] | go_big_quiet_step (fail))
            refine wpQuiet_nil ?_
            rintro w43 ⟨⟨_, hbx⟩, rfl⟩
            have HR43 : Hid (RowI w43 b n z2) := Lib.hid (HRJ3.out.below hbx)
            have HK43 := Lib.hid (HKJ3.out.trans (Kw.ofBelow hbx))
            clear hbx rbw
            clear G0 G1
            have hgt : (j3 : Int) < (i3 : Int) := by omega
            have hie : Hid (i3 = j3 + 1) := Lib.hid (by omega)
            have HQ : Hid ((∀ k, a ≤ k → k < i3 → z2 k ≤ z2 a) ∧ ∀ k, i3 ≤ k → k < m → z2 a < z2 k) := Lib.hid ⟨fun k h1 h2 => by
              by_cases hk : k = a
              · rw [hk]; exact Int.le_refl _
              · exact HLO3.out k (by omega) h2, fun k h1 h2 => HHI3.out k (by have := hie.out; omega) h2⟩
            go_wp2_with (fail)
            go_ret
            exact ⟨i3, z2, rfl, HR43.out, HPZ.out, by omega, by have := hie.out; omega, HQ.out, HAZ.out, HK43.out⟩
end Go.Proofs.Ytmalcekbhnkfgaa
