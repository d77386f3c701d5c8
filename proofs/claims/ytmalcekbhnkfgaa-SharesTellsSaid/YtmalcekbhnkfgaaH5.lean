/- Contract of partition. Conditions: as each theorem states them. -/
import Derived.Test.YtmalcekbhnkfgaaH4
namespace Go.Proofs.Ytmalcekbhnkfgaa
open Go.RowKit Go.Maps
set_option linter.unusedVariables false
set_option linter.unusedSimpArgs false

/-- All behind a and ahead of i are less than the one at a. -/
def LoP (z : Nat → Int) (a i : Nat) : Prop := ∀ k, a < k → k < i → z k < z a
/-- None behind j is less than the one at a. -/
def HiP (z : Nat → Int) (a m j : Nat) : Prop := ∀ k, j < k → k < m → z a ≤ z k
theorem LoP.swap {z : Nat → Int} {a i j : Nat} (h : LoP z a i) (hai : a < i) (hij : i < j) (hj : z j < z a) : LoP (sw2 z i j) a (i + 1) := fun k h1 h2 => by
  rw [sw2_other z (show a ≠ i by omega) (show a ≠ j by omega)]
  by_cases hk : k = i
  · rw [hk, sw2_left]; exact hj
  · rw [sw2_other z hk (by omega)]
    exact h k h1 (by omega)
theorem HiP.swap {z : Nat → Int} {a m i j : Nat} (h : HiP z a m j) (hai : a < i) (hij : i < j) (hi : ¬ z i < z a) : HiP (sw2 z i j) a m (j - 1) := fun k h1 h2 => by
  rw [sw2_other z (show a ≠ i by omega) (show a ≠ j by omega)]
  by_cases hk : k = j
  · rw [hk, sw2_right]; omega
  · rw [sw2_other z (by omega) hk]
    exact h k (by omega) h2
/-- The one at mid parts the rest. -/
def Parts (z : Nat → Int) (a m mid : Nat) : Prop := (∀ k, a ≤ k → k < mid → z k < z mid) ∧ ∀ k, mid < k → k < m → z mid ≤ z k
theorem parts_end {z : Nat → Int} {a m j : Nat} (h1 : LoP z a (j + 1)) (h2 : HiP z a m j) (haj : a ≤ j) : Parts (sw2 z j a) a m j := by
  constructor
  · intro k hk1 hk2
    rw [sw2_left]
    by_cases hk : k = a
    · rw [hk, sw2_right]
      exact h1 j (by omega) (by omega)
    · rw [sw2_other z (by omega) hk]
      exact h1 k (by omega) (by omega)
  · intro k hk1 hk2
    rw [sw2_left, sw2_other z (by omega) (by omega)]
    exact h2 k hk1 hk2
/-- What partition answers. -/
def PartR (w : World) (b n a m : Nat) (z0 : Nat → Int) (e : Ending) (w' : World) : Prop := ∃ (mid : Nat) (ap : Bool) (z : Nat → Int), e = .returned (.tuple #[.int .i64 mid, .bool ap]) ∧ RowI w' b n z ∧ Sw a m z0 z ∧ a ≤ mid ∧ mid < m ∧ Parts z a m mid ∧ Kw (fun x => x = b) w w'
set_option maxRecDepth 100000 in
set_option maxHeartbeats 32000000 in
theorem partition_ne (b n cap a m piv : Nat) (z0 : Nat → Int) (w : World) (hz : RowI w b n z0) (hn : n ≤ 1000000) (hnc : n ≤ cap) (hmn : m ≤ n) (hap : a < piv) (hpm : piv < m) :
    Calls Try.prog 60 #[.slice (some ⟨b, 0, none⟩) n cap, .int .i64 a, .int .i64 m, .int .i64 piv] w (PartR w b n a m z0) := by
  have HZ := Lib.hid hz
  have HL := Lib.hid less_u
  have HKW := Lib.hid (Kw.refl (fun x => x = b) w)
  have HP0 : Hid (Sw a m z0 z0) := Lib.hid .refl
  obtain ⟨j0, hj0⟩ : ∃ j0 : Nat, j0 + 1 = m := ⟨m - 1, by omega⟩
  have hjm : (m : Int) - 1 = (j0 : Int) := by omega
  have ua0 : (0 : Int) ≤ (a : Int) := by omega
  have ua1 : (a : Int) < (n : Int) := by omega
  have up0 : (0 : Int) ≤ (piv : Int) := by omega
  have up1 : (piv : Int) < (n : Int) := by omega
  have hne : ¬ a = piv := by omega
  have HJ0 := Lib.hid hj0
  clear hz hj0
  go_enter Try.func60, Try.ntmps60
  obtain ⟨sa0, sf0⟩ := HZ.out.2 (a) (by omega)
  obtain ⟨sa1, sf1⟩ := HZ.out.2 (piv) (by omega)
  have sbw := HZ.out.1
  obtain ⟨sx, hsx⟩ : ∃ x, z0 (a) = x := ⟨_, rfl⟩
  obtain ⟨sy, hsy⟩ : ∃ y, z0 (piv) = y := ⟨_, rfl⟩
  rw [hsx] at sa0
  rw [hsy] at sa1
  have HSX := Lib.hid hsx
  have HSY := Lib.hid hsy
  clear hsx hsy
  go_wp2_with (fail)
  go_region
  have HR7 : Hid (RowI (((w.setCell ⟨b, a, none⟩ (.int .u64 sy)).setCell ⟨b, piv, none⟩ (.int .u64 sx)).drew) b n (sw2 z0 (a) (piv))) := Lib.hid (by
    have h := HZ.out.sw2 (i := a) (j := piv) (by omega) (by omega)
    rw [HSX.out, HSY.out] at h
    exact h)
  have HK7 : Hid (Kw (fun x => x = b) w (((w.setCell ⟨b, a, none⟩ (.int .u64 sy)).setCell ⟨b, piv, none⟩ (.int .u64 sx)).drew)) := Lib.hid (((HKW.out.setCell (p := ⟨b, a, none⟩) rfl _).setCell (p := ⟨b, piv, none⟩) rfl _).drew)
  have HP7 : Hid (Sw a m z0 (sw2 z0 (a) (piv))) := Lib.hid (.step (a) (piv) (by omega) (by omega) HP0.out)
  clear sa0 sf0 sa1 sf1 sbw
  generalize (((w.setCell ⟨b, a, none⟩ (.int .u64 sy)).setCell ⟨b, piv, none⟩ (.int .u64 sx)).drew) = w7 at *
  have HP1 : Hid (Sw a m z0 (sw2 z0 a piv)) := HP7
  generalize sw2 z0 a piv = z1 at *
  have hj0m : j0 < m := by have := HJ0.out; omega
  have hj0a : a < j0 + 1 := by omega
  have hmj : m ≤ j0 + 1 := by have := HJ0.out; omega
  clear ua0 up0 up1 hne
  -- behind the first swap: world w7, z1
  go_wp2_with (fail)
  go_loopw [10] (fun vi wr => ∃ i : Nat, a + 1 ≤ i ∧ i ≤ j0 + 1 ∧ vi = .int .i64 i ∧ LoP z1 a i ∧ RowI wr b n z1 ∧ Kw (fun x => x = b) w wr) (fun i _ => n + 1 - (intOf i).toNat)
  case atStart => exact ⟨a + 1, by omega, by omega, by first | rfl | (push_cast; rfl) | go_num, (fun k h1 h2 => by omega), HR7.out, HK7.out⟩
  case round =>
    obtain ⟨i1, hai1, hij1, rfl, hlo, hr, hk⟩ := hrel
    have HLO1 := Lib.hid hlo
    have HRI1 := Lib.hid hr
    have HKI1 := Lib.hid hk
    clear hlo hr hk
    by_cases hle1 : i1 ≤ j0
    · have G0 : Hid (decide ((i1 : Int) ≤ (j0 : Int)) = true) := Lib.hid (decide_eq_true (by omega))
      have G1 : Hid (decide (i1 ≤ j0) = true) := Lib.hid (decide_eq_true hle1)
      have ui0 : (0 : Int) ≤ (i1 : Int) := by omega
      have ui1 : (i1 : Int) < (n : Int) := by omega
      obtain ⟨xp, hxp⟩ : ∃ x, z1 (i1) = x := ⟨_, rfl⟩
      have HXp := Lib.hid hxp
      clear hxp
      obtain ⟨xq, hxq⟩ : ∃ x, z1 (a) = x := ⟨_, rfl⟩
      have HXq := Lib.hid hxq
      clear hxq
      by_cases hpq : xp < xq
      · have HV : Hid (LoP z1 a (i1 + 1)) := Lib.hid (fun k h1 h2 => by
          by_cases hk : k = i1
          · rw [hk, HXp.out, HXq.out]; exact hpq
          · exact HLO1.out k h1 (by omega))
        obtain ⟨rap, rfp⟩ := HRI1.out.2 (i1) (by omega)
        rw [HXp.out] at rap
        have rqp := ext_cell rap
        obtain ⟨raq, rfq⟩ := HRI1.out.2 (a) (by omega)
        rw [HXq.out] at raq
        have rqq := ext_cell raq
        have rbw := HRI1.out.1
        have hd : decide (xp < xq) = true := decide_eq_true hpq
        have HLS : Hid (∀ w, Calls Try.prog 58 #[.int .u64 xp, .int .u64 xq] w fun e w' => e = .returned (.bool true) ∧ w = w') := Lib.hid (fun w => by have h := HL.out xp xq w; rwa [hd] at h)
        clear hd
        go_wp2_with (fail)
        refine wp_region_ext (by kernel_rfl) (by kernel_rfl) ?_
        repeat (first | rw [G0.out] | rw [G1.out] | go_big_quiet_step ((go_at_call 58; exact ext_calls_same (HLS.out _))))
        refine wpQuiet_nil ?_
        rintro w2 ⟨⟨_, hbx⟩, rfl⟩
        have HR2 : Hid (RowI w2 b n z1) := Lib.hid (HRI1.out.below hbx)
        have HK2 := Lib.hid (HKI1.out.trans (Kw.ofBelow hbx))
        clear hbx rbw rap rfp rqp raq rfq rqq HLS
        clear hpq ui0 ui1
        go_wp2_with (fail)
        go_roundw
        case rel => exact ⟨i1 + 1, by omega, by omega, by first | rfl | (push_cast; rfl) | go_num, HV.out, HR2.out, HK2.out⟩
        case measure => simp [intOf]; omega
      · have HNI1 : Hid (z1 a ≤ z1 i1) := Lib.hid (by rw [HXp.out, HXq.out]; omega)
        obtain ⟨rap, rfp⟩ := HRI1.out.2 (i1) (by omega)
        rw [HXp.out] at rap
        have rqp := ext_cell rap
        obtain ⟨raq, rfq⟩ := HRI1.out.2 (a) (by omega)
        rw [HXq.out] at raq
        have rqq := ext_cell raq
        have rbw := HRI1.out.1
        have hd : decide (xp < xq) = false := decide_eq_false hpq
        have HLS : Hid (∀ w, Calls Try.prog 58 #[.int .u64 xp, .int .u64 xq] w fun e w' => e = .returned (.bool false) ∧ w = w') := Lib.hid (fun w => by have h := HL.out xp xq w; rwa [hd] at h)
        clear hd
        go_wp2_with (fail)
        refine wp_region_ext (by kernel_rfl) (by kernel_rfl) ?_
        repeat (first | rw [G0.out] | rw [G1.out] | go_big_quiet_step ((go_at_call 58; exact ext_calls_same (HLS.out _))))
        refine wpQuiet_nil ?_
        rintro w21 ⟨⟨_, hbx⟩, rfl⟩
        have HR21 : Hid (RowI w21 b n z1) := Lib.hid (HRI1.out.below hbx)
        have HK21 := Lib.hid (HKI1.out.trans (Kw.ofBelow hbx))
        clear hbx rbw rap rfp rqp raq rfq rqq HLS
        clear hpq ui0 ui1 G0 G1 HXp HXq
        go_wp2_with (fail)
        go_loopw [11] (fun vj wr => ∃ j : Nat, i1 ≤ j + 1 ∧ j ≤ j0 ∧ vj = .int .i64 j ∧ HiP z1 a m j ∧ RowI wr b n z1 ∧ Kw (fun x => x = b) w wr) (fun j _ => (intOf j).toNat)
        case atStart => exact ⟨j0, by omega, by omega, rfl, (fun k h1 h2 => by omega), HR21.out, HK21.out⟩
        case round =>
          obtain ⟨j1, hji1, hjm1, rfl, hhi, hr, hk⟩ := hrel
          have HHI1 := Lib.hid hhi
          have HRJ1 := Lib.hid hr
          have HKJ1 := Lib.hid hk
          clear hhi hr hk
          by_cases hle21 : i1 ≤ j1
          · have G0 : Hid (decide ((i1 : Int) ≤ (j1 : Int)) = true) := Lib.hid (decide_eq_true (by omega))
            have G1 : Hid (decide (i1 ≤ j1) = true) := Lib.hid (decide_eq_true hle21)
            have uj0 : (0 : Int) ≤ (j1 : Int) := by omega
            have uj1 : (j1 : Int) < (n : Int) := by omega
            obtain ⟨xp, hxp⟩ : ∃ x, z1 (j1) = x := ⟨_, rfl⟩
            have HXp := Lib.hid hxp
            clear hxp
            obtain ⟨xq, hxq⟩ : ∃ x, z1 (a) = x := ⟨_, rfl⟩
            have HXq := Lib.hid hxq
            clear hxq
            by_cases hpq : xp < xq
            · have HNJ1 : Hid (z1 j1 < z1 a) := Lib.hid (by rw [HXp.out, HXq.out]; exact hpq)
              obtain ⟨rap, rfp⟩ := HRJ1.out.2 (j1) (by omega)
              rw [HXp.out] at rap
              have rqp := ext_cell rap
              obtain ⟨raq, rfq⟩ := HRJ1.out.2 (a) (by omega)
              rw [HXq.out] at raq
              have rqq := ext_cell raq
              have rbw := HRJ1.out.1
              have hd : decide (xp < xq) = true := decide_eq_true hpq
              have HLS : Hid (∀ w, Calls Try.prog 58 #[.int .u64 xp, .int .u64 xq] w fun e w' => e = .returned (.bool true) ∧ w = w') := Lib.hid (fun w => by have h := HL.out xp xq w; rwa [hd] at h)
              clear hd
              go_wp2_with (fail)
              refine wp_region_ext (by kernel_rfl) (by kernel_rfl) ?_
              repeat (first | rw [G0.out] | rw [G1.out] | go_big_quiet_step ((go_at_call 58; exact ext_calls_same (HLS.out _))))
              refine wpQuiet_nil ?_
              rintro w41 ⟨⟨_, hbx⟩, rfl⟩
              have HR41 : Hid (RowI w41 b n z1) := Lib.hid (HRJ1.out.below hbx)
              have HK41 := Lib.hid (HKJ1.out.trans (Kw.ofBelow hbx))
              clear hbx rbw rap rfp rqp raq rfq rqq HLS
              clear hpq uj0 uj1 G0 G1 HXp HXq
              have hgt : ¬ (j1 : Int) < (i1 : Int) := by omega
              have hltij : i1 < j1 := by
                rcases Nat.lt_or_ge i1 j1 with h | h
                · exact h
                · have e : i1 = j1 := by omega
                  have h1 := HNI1.out
                  have h2 := HNJ1.out
                  rw [e] at h1
                  omega
              have hne : ¬ i1 = j1 := by omega
              have ui0 : (0 : Int) ≤ (i1 : Int) := by omega
              have ui1 : (i1 : Int) < (n : Int) := by omega
              have uj0 : (0 : Int) ≤ (j1 : Int) := by omega
              have uj1 : (j1 : Int) < (n : Int) := by omega
              obtain ⟨sa0, sf0⟩ := HR41.out.2 (i1) (by omega)
              obtain ⟨sa1, sf1⟩ := HR41.out.2 (j1) (by omega)
              have sbw := HR41.out.1
              obtain ⟨sx, hsx⟩ : ∃ x, z1 (i1) = x := ⟨_, rfl⟩
              obtain ⟨sy, hsy⟩ : ∃ y, z1 (j1) = y := ⟨_, rfl⟩
              rw [hsx] at sa0
              rw [hsy] at sa1
              have HSX := Lib.hid hsx
              have HSY := Lib.hid hsy
              clear hsx hsy
              go_wp2_with (fail)
              go_region
              have HR8 : Hid (RowI (((w41.setCell ⟨b, i1, none⟩ (.int .u64 sy)).setCell ⟨b, j1, none⟩ (.int .u64 sx)).drew) b n (sw2 z1 (i1) (j1))) := Lib.hid (by
                have h := HR41.out.sw2 (i := i1) (j := j1) (by omega) (by omega)
                rw [HSX.out, HSY.out] at h
                exact h)
              have HK8 : Hid (Kw (fun x => x = b) w (((w41.setCell ⟨b, i1, none⟩ (.int .u64 sy)).setCell ⟨b, j1, none⟩ (.int .u64 sx)).drew)) := Lib.hid (((HK41.out.setCell (p := ⟨b, i1, none⟩) rfl _).setCell (p := ⟨b, j1, none⟩) rfl _).drew)
              have HP8 : Hid (Sw a m z0 (sw2 z1 (i1) (j1))) := Lib.hid (.step (i1) (j1) (by omega) (by omega) HP1.out)
              clear sa0 sf0 sa1 sf1 sbw
              generalize (((w41.setCell ⟨b, i1, none⟩ (.int .u64 sy)).setCell ⟨b, j1, none⟩ (.int .u64 sx)).drew) = w8 at *
              have HL8 : Hid (LoP (sw2 z1 i1 j1) a (i1 + 1)) := Lib.hid (HLO1.out.swap (by omega) hltij HNJ1.out)
              have HH8 : Hid (HiP (sw2 z1 i1 j1) a m (j1 - 1)) := Lib.hid (HHI1.out.swap (by omega) hltij (by have := HNI1.out; omega))
              have hje : ((j1 - 1 : Nat) : Int) = (j1 : Int) - 1 := by omega
              have HJE := Lib.hid hje
              clear hje ui0 ui1 uj0 uj1 hne
              go_wp2_with (fail)
              go_loopw [10, 11] (fun vi vj wr => ∃ (i j : Nat) (z : Nat → Int), a + 1 ≤ i ∧ i ≤ j + 1 ∧ j < m ∧ vi = .int .i64 i ∧ vj = .int .i64 j ∧ LoP z a i ∧ HiP z a m j ∧ RowI wr b n z ∧ Sw a m z0 z ∧ Kw (fun x => x = b) w wr) (fun i j _ => (intOf j + 1 - intOf i).toNat)
              case atStart => exact ⟨i1 + 1, j1 - 1, _, by omega, by omega, by omega, by first | rfl | (push_cast; rfl) | go_num, by rw [HJE.out], HL8.out, HH8.out, HR8.out, HP8.out, HK8.out⟩
              case round =>
                obtain ⟨i2, j2, z2, hi2, hij2, hj2, rfl, rfl, hlo, hhi, hr, hp, hk⟩ := hrel
                have HLZ := Lib.hid hlo
                have HHZ := Lib.hid hhi
                have HRZ := Lib.hid hr
                have HPZ := Lib.hid hp
                have HKZ := Lib.hid hk
                clear hlo hhi hr hp hk
                go_wp2_with (fail)
                go_loopw [10] (fun vi wr => ∃ i : Nat, i2 ≤ i ∧ i ≤ j2 + 1 ∧ vi = .int .i64 i ∧ LoP z2 a i ∧ RowI wr b n z2 ∧ Kw (fun x => x = b) w wr) (fun i _ => n + 1 - (intOf i).toNat)
                case atStart => exact ⟨i2, by omega, by omega, by first | rfl | (push_cast; rfl) | go_num, HLZ.out, HRZ.out, HKZ.out⟩
                case round =>
                  obtain ⟨i3, hai3, hij3, rfl, hlo, hr, hk⟩ := hrel
                  have HLO3 := Lib.hid hlo
                  have HRI3 := Lib.hid hr
                  have HKI3 := Lib.hid hk
                  clear hlo hr hk
                  by_cases hle3 : i3 ≤ j2
                  · have G0 : Hid (decide ((i3 : Int) ≤ (j2 : Int)) = true) := Lib.hid (decide_eq_true (by omega))
                    have G1 : Hid (decide (i3 ≤ j2) = true) := Lib.hid (decide_eq_true hle3)
                    have ui0 : (0 : Int) ≤ (i3 : Int) := by omega
                    have ui1 : (i3 : Int) < (n : Int) := by omega
                    obtain ⟨xp, hxp⟩ : ∃ x, z2 (i3) = x := ⟨_, rfl⟩
                    have HXp := Lib.hid hxp
                    clear hxp
                    obtain ⟨xq, hxq⟩ : ∃ x, z2 (a) = x := ⟨_, rfl⟩
                    have HXq := Lib.hid hxq
                    clear hxq
                    by_cases hpq : xp < xq
                    · have HV : Hid (LoP z2 a (i3 + 1)) := Lib.hid (fun k h1 h2 => by
                        by_cases hk : k = i3
                        · rw [hk, HXp.out, HXq.out]; exact hpq
                        · exact HLO3.out k h1 (by omega))
                      obtain ⟨rap, rfp⟩ := HRI3.out.2 (i3) (by omega)
                      rw [HXp.out] at rap
                      have rqp := ext_cell rap
                      obtain ⟨raq, rfq⟩ := HRI3.out.2 (a) (by omega)
                      rw [HXq.out] at raq
                      have rqq := ext_cell raq
                      have rbw := HRI3.out.1
                      have hd : decide (xp < xq) = true := decide_eq_true hpq
                      have HLS : Hid (∀ w, Calls Try.prog 58 #[.int .u64 xp, .int .u64 xq] w fun e w' => e = .returned (.bool true) ∧ w = w') := Lib.hid (fun w => by have h := HL.out xp xq w; rwa [hd] at h)
                      clear hd
                      go_wp2_with (fail)
                      refine wp_region_ext (by kernel_rfl) (by kernel_rfl) ?_
                      repeat (first | rw [G0.out] | rw [G1.out] | go_big_quiet_step ((go_at_call 58; exact ext_calls_same (HLS.out _))))
                      refine wpQuiet_nil ?_
                      rintro w2 ⟨⟨_, hbx⟩, rfl⟩
                      have HR2 : Hid (RowI w2 b n z2) := Lib.hid (HRI3.out.below hbx)
                      have HK2 := Lib.hid (HKI3.out.trans (Kw.ofBelow hbx))
                      clear hbx rbw rap rfp rqp raq rfq rqq HLS
                      clear hpq ui0 ui1
                      go_wp2_with (fail)
                      go_roundw
                      case rel => exact ⟨i3 + 1, by omega, by omega, by first | rfl | (push_cast; rfl) | go_num, HV.out, HR2.out, HK2.out⟩
                      case measure => simp [intOf]; omega
                    · have HNI3 : Hid (z2 a ≤ z2 i3) := Lib.hid (by rw [HXp.out, HXq.out]; omega)
                      obtain ⟨rap, rfp⟩ := HRI3.out.2 (i3) (by omega)
                      rw [HXp.out] at rap
                      have rqp := ext_cell rap
                      obtain ⟨raq, rfq⟩ := HRI3.out.2 (a) (by omega)
                      rw [HXq.out] at raq
                      have rqq := ext_cell raq
                      have rbw := HRI3.out.1
                      have hd : decide (xp < xq) = false := decide_eq_false hpq
                      have HLS : Hid (∀ w, Calls Try.prog 58 #[.int .u64 xp, .int .u64 xq] w fun e w' => e = .returned (.bool false) ∧ w = w') := Lib.hid (fun w => by have h := HL.out xp xq w; rwa [hd] at h)
                      clear hd
                      go_wp2_with (fail)
                      refine wp_region_ext (by kernel_rfl) (by kernel_rfl) ?_
                      repeat (first | rw [G0.out] | rw [G1.out] | go_big_quiet_step ((go_at_call 58; exact ext_calls_same (HLS.out _))))
                      refine wpQuiet_nil ?_
                      rintro w23 ⟨⟨_, hbx⟩, rfl⟩
                      have HR23 : Hid (RowI w23 b n z2) := Lib.hid (HRI3.out.below hbx)
                      have HK23 := Lib.hid (HKI3.out.trans (Kw.ofBelow hbx))
                      clear hbx rbw rap rfp rqp raq rfq rqq HLS
                      clear hpq ui0 ui1 G0 G1 HXp HXq
                      go_wp2_with (fail)
                      go_loopw [11] (fun vj wr => ∃ j : Nat, i3 ≤ j + 1 ∧ j ≤ j2 ∧ vj = .int .i64 j ∧ HiP z2 a m j ∧ RowI wr b n z2 ∧ Kw (fun x => x = b) w wr) (fun j _ => (intOf j).toNat)
                      case atStart => exact ⟨j2, by omega, by omega, rfl, HHZ.out, HR23.out, HK23.out⟩
                      case round =>
                        obtain ⟨j3, hji3, hjm3, rfl, hhi, hr, hk⟩ := hrel
                        have HHI3 := Lib.hid hhi
                        have HRJ3 := Lib.hid hr
                        have HKJ3 := Lib.hid hk
                        clear hhi hr hk
                        by_cases hle23 : i3 ≤ j3
                        · have G0 : Hid (decide ((i3 : Int) ≤ (j3 : Int)) = true) := Lib.hid (decide_eq_true (by omega))
                          have G1 : Hid (decide (i3 ≤ j3) = true) := Lib.hid (decide_eq_true hle23)
                          have uj0 : (0 : Int) ≤ (j3 : Int) := by omega
                          have uj1 : (j3 : Int) < (n : Int) := by omega
                          obtain ⟨xp, hxp⟩ : ∃ x, z2 (j3) = x := ⟨_, rfl⟩
                          have HXp := Lib.hid hxp
                          clear hxp
                          obtain ⟨xq, hxq⟩ : ∃ x, z2 (a) = x := ⟨_, rfl⟩
                          have HXq := Lib.hid hxq
                          clear hxq
                          by_cases hpq : xp < xq
                          · have HNJ3 : Hid (z2 j3 < z2 a) := Lib.hid (by rw [HXp.out, HXq.out]; exact hpq)
                            obtain ⟨rap, rfp⟩ := HRJ3.out.2 (j3) (by omega)
                            rw [HXp.out] at rap
                            have rqp := ext_cell rap
                            obtain ⟨raq, rfq⟩ := HRJ3.out.2 (a) (by omega)
                            rw [HXq.out] at raq
                            have rqq := ext_cell raq
                            have rbw := HRJ3.out.1
                            have hd : decide (xp < xq) = true := decide_eq_true hpq
                            have HLS : Hid (∀ w, Calls Try.prog 58 #[.int .u64 xp, .int .u64 xq] w fun e w' => e = .returned (.bool true) ∧ w = w') := Lib.hid (fun w => by have h := HL.out xp xq w; rwa [hd] at h)
                            clear hd
                            go_wp2_with (fail)
                            refine wp_region_ext (by kernel_rfl) (by kernel_rfl) ?_
                            repeat (first | rw [G0.out] | rw [G1.out] | go_big_quiet_step ((go_at_call 58; exact ext_calls_same (HLS.out _))))
                            refine wpQuiet_nil ?_
                            rintro w43 ⟨⟨_, hbx⟩, rfl⟩
                            have HR43 : Hid (RowI w43 b n z2) := Lib.hid (HRJ3.out.below hbx)
                            have HK43 := Lib.hid (HKJ3.out.trans (Kw.ofBelow hbx))
                            clear hbx rbw rap rfp rqp raq rfq rqq HLS
                            clear hpq uj0 uj1 G0 G1 HXp HXq
                            have hgt : ¬ (j3 : Int) < (i3 : Int) := by omega
                            have hltij : i3 < j3 := by
                              rcases Nat.lt_or_ge i3 j3 with h | h
                              · exact h
                              · have e : i3 = j3 := by omega
                                have h1 := HNI3.out
                                have h2 := HNJ3.out
                                rw [e] at h1
                                omega
                            have hne : ¬ i3 = j3 := by omega
                            have hlt3 := Lib.hid hltij
                            have ui0 : (0 : Int) ≤ (i3 : Int) := by omega
                            have ui1 : (i3 : Int) < (n : Int) := by omega
                            have uj0 : (0 : Int) ≤ (j3 : Int) := by omega
                            have uj1 : (j3 : Int) < (n : Int) := by omega
                            obtain ⟨sa0, sf0⟩ := HR43.out.2 (i3) (by omega)
                            obtain ⟨sa1, sf1⟩ := HR43.out.2 (j3) (by omega)
                            have sbw := HR43.out.1
                            obtain ⟨sx, hsx⟩ : ∃ x, z2 (i3) = x := ⟨_, rfl⟩
                            obtain ⟨sy, hsy⟩ : ∃ y, z2 (j3) = y := ⟨_, rfl⟩
                            rw [hsx] at sa0
                            rw [hsy] at sa1
                            have HSX := Lib.hid hsx
                            have HSY := Lib.hid hsy
                            clear hsx hsy
                            go_wp2_with (fail)
                            go_region
                            have HR8 : Hid (RowI (((w43.setCell ⟨b, i3, none⟩ (.int .u64 sy)).setCell ⟨b, j3, none⟩ (.int .u64 sx)).drew) b n (sw2 z2 (i3) (j3))) := Lib.hid (by
                              have h := HR43.out.sw2 (i := i3) (j := j3) (by omega) (by omega)
                              rw [HSX.out, HSY.out] at h
                              exact h)
                            have HK8 : Hid (Kw (fun x => x = b) w (((w43.setCell ⟨b, i3, none⟩ (.int .u64 sy)).setCell ⟨b, j3, none⟩ (.int .u64 sx)).drew)) := Lib.hid (((HK43.out.setCell (p := ⟨b, i3, none⟩) rfl _).setCell (p := ⟨b, j3, none⟩) rfl _).drew)
                            have HP8 : Hid (Sw a m z0 (sw2 z2 (i3) (j3))) := Lib.hid (.step (i3) (j3) (by omega) (by omega) HPZ.out)
                            clear sa0 sf0 sa1 sf1 sbw
                            generalize (((w43.setCell ⟨b, i3, none⟩ (.int .u64 sy)).setCell ⟨b, j3, none⟩ (.int .u64 sx)).drew) = w8 at *
                            have HL8 : Hid (LoP (sw2 z2 i3 j3) a (i3 + 1)) := Lib.hid (HLO3.out.swap (by omega) hltij HNJ3.out)
                            have HH8 : Hid (HiP (sw2 z2 i3 j3) a m (j3 - 1)) := Lib.hid (HHI3.out.swap (by omega) hltij (by have := HNI3.out; omega))
                            have hje : ((j3 - 1 : Nat) : Int) = (j3 : Int) - 1 := by omega
                            have HJE := Lib.hid hje
                            clear hje ui0 ui1 uj0 uj1 hne
                            go_wp2_with (fail)
                            go_roundw
                            case rel => exact ⟨i3 + 1, j3 - 1, _, by omega, by omega, by omega, by first | rfl | (push_cast; rfl) | go_num, by rw [HJE.out], HL8.out, HH8.out, HR8.out, HP8.out, HK8.out⟩
                            case measure => simp [intOf]; omega
                          · have HV : Hid (HiP z2 a m (j3 - 1)) := Lib.hid (fun k h1 h2 => by
                              by_cases hk : k = j3
                              · rw [hk, HXp.out, HXq.out]; omega
                              · exact HHI3.out k (by omega) h2)
                            obtain ⟨rap, rfp⟩ := HRJ3.out.2 (j3) (by omega)
                            rw [HXp.out] at rap
                            have rqp := ext_cell rap
                            obtain ⟨raq, rfq⟩ := HRJ3.out.2 (a) (by omega)
                            rw [HXq.out] at raq
                            have rqq := ext_cell raq
                            have rbw := HRJ3.out.1
                            have hd : decide (xp < xq) = false := decide_eq_false hpq
                            have HLS : Hid (∀ w, Calls Try.prog 58 #[.int .u64 xp, .int .u64 xq] w fun e w' => e = .returned (.bool false) ∧ w = w') := Lib.hid (fun w => by have h := HL.out xp xq w; rwa [hd] at h)
                            clear hd
                            go_wp2_with (fail)
                            refine wp_region_ext (by kernel_rfl) (by kernel_rfl) ?_
                            repeat (first | rw [G0.out] | rw [G1.out] | go_big_quiet_step ((go_at_call 58; exact ext_calls_same (HLS.out _))))
                            refine wpQuiet_nil ?_
                            rintro w2 ⟨⟨_, hbx⟩, rfl⟩
                            have HR2 : Hid (RowI w2 b n z2) := Lib.hid (HRJ3.out.below hbx)
                            have HK2 := Lib.hid (HKJ3.out.trans (Kw.ofBelow hbx))
                            clear hbx rbw rap rfp rqp raq rfq rqq HLS
                            clear hpq uj0 uj1
                            have hje : ((j3 - 1 : Nat) : Int) = (j3 : Int) - 1 := by omega
                            have HJE := Lib.hid hje
                            clear hje
                            go_wp2_with (fail)
                            go_roundw
                            case rel => exact ⟨j3 - 1, by omega, by omega, by rw [HJE.out], HV.out, HR2.out, HK2.out⟩
                            case measure => simp [intOf]; omega
                        · have G0 : Hid (decide ((i3 : Int) ≤ (j3 : Int)) = false) := Lib.hid (decide_eq_false (by omega))
                          have G1 : Hid (decide (i3 ≤ j3) = false) := Lib.hid (decide_eq_false hle23)
                          have rbw := HRJ3.out.1
                          go_wp2_with (fail)
                          refine wp_region_ext (by kernel_rfl) (by kernel_rfl) ?_
                          repeat (first | rw [G0.out] | rw [G1.out] | go_big_quiet_step (fail))
                          refine wpQuiet_nil ?_
                          rintro w43 ⟨⟨_, hbx⟩, rfl⟩
                          have HR43 : Hid (RowI w43 b n z2) := Lib.hid (HRJ3.out.below hbx)
                          have HK43 := Lib.hid (HKJ3.out.trans (Kw.ofBelow hbx))
                          clear hbx rbw
                          clear G0 G1
                          have hgt : (j3 : Int) < (i3 : Int) := by omega
                          have hie : Hid (i3 = j3 + 1) := Lib.hid (by omega)
                          have haj : a ≤ j3 := by omega
                          have HQ : Hid (Parts (sw2 z2 j3 a) a m j3) := Lib.hid (parts_end (by have := HLO3.out; rwa [hie.out] at this) HHI3.out haj)
                          have ua0 : (0 : Int) ≤ (a : Int) := by omega
                          have ua1 : (a : Int) < (n : Int) := by omega
                          have uj0 : (0 : Int) ≤ (j3 : Int) := by omega
                          have uj1 : (j3 : Int) < (n : Int) := by omega
                          by_cases hja : j3 = a
                          · have HJA := Lib.hid hja
                            subst hja
                            obtain ⟨sa0, sf0⟩ := HR43.out.2 (j3) (by omega)
                            have sbw := HR43.out.1
                            obtain ⟨sx, hsx⟩ : ∃ x, z2 (j3) = x := ⟨_, rfl⟩
                            rw [hsx] at sa0
                            have HSX := Lib.hid hsx
                            clear hsx
                            go_wp2_with (fail)
                            go_region
                            all_goals
                              have HR9 : Hid (RowI (((w43.setCell ⟨b, j3, none⟩ (.int .u64 sx)).setCell ⟨b, j3, none⟩ (.int .u64 sx)).drew) b n (sw2 z2 (j3) (j3))) := Lib.hid (by
                                have h := HR43.out.sw2 (i := j3) (j := j3) (by omega) (by omega)
                                rw [HSX.out] at h
                                exact h)
                              have HK9 : Hid (Kw (fun x => x = b) w (((w43.setCell ⟨b, j3, none⟩ (.int .u64 sx)).setCell ⟨b, j3, none⟩ (.int .u64 sx)).drew)) := Lib.hid (((HK43.out.setCell (p := ⟨b, j3, none⟩) rfl _).setCell (p := ⟨b, j3, none⟩) rfl _).drew)
                              have HP9 : Hid (Sw j3 m z0 (sw2 z2 (j3) (j3))) := Lib.hid (.step (j3) (j3) (by omega) (by omega) HPZ.out)
                              clear sa0 sf0 sbw
                              generalize (((w43.setCell ⟨b, j3, none⟩ (.int .u64 sx)).setCell ⟨b, j3, none⟩ (.int .u64 sx)).drew) = w9 at *
                              go_wp2_with (fail)
                              go_ret2
                              exact ⟨_, _, _, rfl, HR9.out, HP9.out, Nat.le_refl _, by omega, HQ.out, HK9.out⟩
                          · obtain ⟨sa0, sf0⟩ := HR43.out.2 (j3) (by omega)
                            obtain ⟨sa1, sf1⟩ := HR43.out.2 (a) (by omega)
                            have sbw := HR43.out.1
                            obtain ⟨sx, hsx⟩ : ∃ x, z2 (j3) = x := ⟨_, rfl⟩
                            obtain ⟨sy, hsy⟩ : ∃ y, z2 (a) = y := ⟨_, rfl⟩
                            rw [hsx] at sa0
                            rw [hsy] at sa1
                            have HSX := Lib.hid hsx
                            have HSY := Lib.hid hsy
                            clear hsx hsy
                            go_wp2_with (fail)
                            go_region
                            have HR9 : Hid (RowI (((w43.setCell ⟨b, j3, none⟩ (.int .u64 sy)).setCell ⟨b, a, none⟩ (.int .u64 sx)).drew) b n (sw2 z2 (j3) (a))) := Lib.hid (by
                              have h := HR43.out.sw2 (i := j3) (j := a) (by omega) (by omega)
                              rw [HSX.out, HSY.out] at h
                              exact h)
                            have HK9 : Hid (Kw (fun x => x = b) w (((w43.setCell ⟨b, j3, none⟩ (.int .u64 sy)).setCell ⟨b, a, none⟩ (.int .u64 sx)).drew)) := Lib.hid (((HK43.out.setCell (p := ⟨b, j3, none⟩) rfl _).setCell (p := ⟨b, a, none⟩) rfl _).drew)
                            have HP9 : Hid (Sw a m z0 (sw2 z2 (j3) (a))) := Lib.hid (.step (j3) (a) (by omega) (by omega) HPZ.out)
                            clear sa0 sf0 sa1 sf1 sbw
                            generalize (((w43.setCell ⟨b, j3, none⟩ (.int .u64 sy)).setCell ⟨b, a, none⟩ (.int .u64 sx)).drew) = w9 at *
                            go_wp2_with (fail)
                            go_ret2
                            exact ⟨_, _, _, rfl, HR9.out, HP9.out, by omega, by omega, HQ.out, HK9.out⟩
                  · have G0 : Hid (decide ((i3 : Int) ≤ (j2 : Int)) = false) := Lib.hid (decide_eq_false (by omega))
                    have G1 : Hid (decide (i3 ≤ j2) = false) := Lib.hid (decide_eq_false hle3)
                    have rbw := HRI3.out.1
                    go_wp2_with (fail)
                    refine wp_region_ext (by kernel_rfl) (by kernel_rfl) ?_
                    repeat (first | rw [G0.out] | rw [G1.out] | go_big_quiet_step (fail))
                    refine wpQuiet_nil ?_
                    rintro w23 ⟨⟨_, hbx⟩, rfl⟩
                    have HR23 : Hid (RowI w23 b n z2) := Lib.hid (HRI3.out.below hbx)
                    have HK23 := Lib.hid (HKI3.out.trans (Kw.ofBelow hbx))
                    clear hbx rbw
                    clear G0 G1
                    go_wp2_with (fail)
                    go_loopw [11] (fun vj wr => ∃ j : Nat, i3 ≤ j + 1 ∧ j ≤ j2 ∧ vj = .int .i64 j ∧ HiP z2 a m j ∧ RowI wr b n z2 ∧ Kw (fun x => x = b) w wr) (fun j _ => (intOf j).toNat)
                    case atStart => exact ⟨j2, by omega, by omega, rfl, HHZ.out, HR23.out, HK23.out⟩
                    case round =>
                      obtain ⟨j3, hji3, hjm3, rfl, hhi, hr, hk⟩ := hrel
                      have HHI3 := Lib.hid hhi
                      have HRJ3 := Lib.hid hr
                      have HKJ3 := Lib.hid hk
                      clear hhi hr hk
                      by_cases hle23 : i3 ≤ j3
                      · have G0 : Hid (decide ((i3 : Int) ≤ (j3 : Int)) = true) := Lib.hid (decide_eq_true (by omega))
                        have G1 : Hid (decide (i3 ≤ j3) = true) := Lib.hid (decide_eq_true hle23)
                        have uj0 : (0 : Int) ≤ (j3 : Int) := by omega
                        have uj1 : (j3 : Int) < (n : Int) := by omega
                        obtain ⟨xp, hxp⟩ : ∃ x, z2 (j3) = x := ⟨_, rfl⟩
                        have HXp := Lib.hid hxp
                        clear hxp
                        obtain ⟨xq, hxq⟩ : ∃ x, z2 (a) = x := ⟨_, rfl⟩
                        have HXq := Lib.hid hxq
                        clear hxq
                        by_cases hpq : xp < xq
                        · have HNJ3 : Hid (z2 j3 < z2 a) := Lib.hid (by rw [HXp.out, HXq.out]; exact hpq)
                          obtain ⟨rap, rfp⟩ := HRJ3.out.2 (j3) (by omega)
                          rw [HXp.out] at rap
                          have rqp := ext_cell rap
                          obtain ⟨raq, rfq⟩ := HRJ3.out.2 (a) (by omega)
                          rw [HXq.out] at raq
                          have rqq := ext_cell raq
                          have rbw := HRJ3.out.1
                          have hd : decide (xp < xq) = true := decide_eq_true hpq
                          have HLS : Hid (∀ w, Calls Try.prog 58 #[.int .u64 xp, .int .u64 xq] w fun e w' => e = .returned (.bool true) ∧ w = w') := Lib.hid (fun w => by have h := HL.out xp xq w; rwa [hd] at h)
                          clear hd
                          go_wp2_with (fail)
                          refine wp_region_ext (by kernel_rfl) (by kernel_rfl) ?_
                          repeat (first | rw [G0.out] | rw [G1.out] | go_big_quiet_step ((go_at_call 58; exact ext_calls_same (HLS.out _))))
                          refine wpQuiet_nil ?_
                          rintro w43 ⟨⟨_, hbx⟩, rfl⟩
                          have HR43 : Hid (RowI w43 b n z2) := Lib.hid (HRJ3.out.below hbx)
                          have HK43 := Lib.hid (HKJ3.out.trans (Kw.ofBelow hbx))
                          clear hbx rbw rap rfp rqp raq rfq rqq HLS
                          clear hpq uj0 uj1 G0 G1 HXp HXq
                          exfalso
                          omega
                        · have HV : Hid (HiP z2 a m (j3 - 1)) := Lib.hid (fun k h1 h2 => by
                            by_cases hk : k = j3
                            · rw [hk, HXp.out, HXq.out]; omega
                            · exact HHI3.out k (by omega) h2)
                          obtain ⟨rap, rfp⟩ := HRJ3.out.2 (j3) (by omega)
                          rw [HXp.out] at rap
                          have rqp := ext_cell rap
                          obtain ⟨raq, rfq⟩ := HRJ3.out.2 (a) (by omega)
                          rw [HXq.out] at raq
                          have rqq := ext_cell raq
                          have rbw := HRJ3.out.1
                          have hd : decide (xp < xq) = false := decide_eq_false hpq
                          have HLS : Hid (∀ w, Calls Try.prog 58 #[.int .u64 xp, .int .u64 xq] w fun e w' => e = .returned (.bool false) ∧ w = w') := Lib.hid (fun w => by have h := HL.out xp xq w; rwa [hd] at h)
                          clear hd
                          go_wp2_with (fail)
                          refine wp_region_ext (by kernel_rfl) (by kernel_rfl) ?_
                          repeat (first | rw [G0.out] | rw [G1.out] | go_big_quiet_step ((go_at_call 58; exact ext_calls_same (HLS.out _))))
                          refine wpQuiet_nil ?_
                          rintro w2 ⟨⟨_, hbx⟩, rfl⟩
                          have HR2 : Hid (RowI w2 b n z2) := Lib.hid (HRJ3.out.below hbx)
                          have HK2 := Lib.hid (HKJ3.out.trans (Kw.ofBelow hbx))
                          clear hbx rbw rap rfp rqp raq rfq rqq HLS
                          clear hpq uj0 uj1
                          have hje : ((j3 - 1 : Nat) : Int) = (j3 : Int) - 1 := by omega
                          have HJE := Lib.hid hje
                          clear hje
                          go_wp2_with (fail)
                          go_roundw
                          case rel => exact ⟨j3 - 1, by omega, by omega, by rw [HJE.out], HV.out, HR2.out, HK2.out⟩
                          case measure => simp [intOf]; omega
                      · have G0 : Hid (decide ((i3 : Int) ≤ (j3 : Int)) = false) := Lib.hid (decide_eq_false (by omega))
                        have G1 : Hid (decide (i3 ≤ j3) = false) := Lib.hid (decide_eq_false hle23)
                        have rbw := HRJ3.out.1
                        go_wp2_with (fail)
                        refine wp_region_ext (by kernel_rfl) (by kernel_rfl) ?_
                        repeat (first | rw [G0.out] | rw [G1.out] | go_big_quiet_step (fail))
                        refine wpQuiet_nil ?_
                        rintro w43 ⟨⟨_, hbx⟩, rfl⟩
                        have HR43 : Hid (RowI w43 b n z2) := Lib.hid (HRJ3.out.below hbx)
                        have HK43 := Lib.hid (HKJ3.out.trans (Kw.ofBelow hbx))
                        clear hbx rbw
                        clear G0 G1
                        have hgt : (j3 : Int) < (i3 : Int) := by omega
                        have hie : Hid (i3 = j3 + 1) := Lib.hid (by omega)
                        have haj : a ≤ j3 := by omega
                        have HQ : Hid (Parts (sw2 z2 j3 a) a m j3) := Lib.hid (parts_end (by have := HLO3.out; rwa [hie.out] at this) HHI3.out haj)
                        have ua0 : (0 : Int) ≤ (a : Int) := by omega
                        have ua1 : (a : Int) < (n : Int) := by omega
                        have uj0 : (0 : Int) ≤ (j3 : Int) := by omega
                        have uj1 : (j3 : Int) < (n : Int) := by omega
                        by_cases hja : j3 = a
                        · have HJA := Lib.hid hja
                          subst hja
                          obtain ⟨sa0, sf0⟩ := HR43.out.2 (j3) (by omega)
                          have sbw := HR43.out.1
                          obtain ⟨sx, hsx⟩ : ∃ x, z2 (j3) = x := ⟨_, rfl⟩
                          rw [hsx] at sa0
                          have HSX := Lib.hid hsx
                          clear hsx
                          go_wp2_with (fail)
                          go_region
                          all_goals
                            have HR9 : Hid (RowI (((w43.setCell ⟨b, j3, none⟩ (.int .u64 sx)).setCell ⟨b, j3, none⟩ (.int .u64 sx)).drew) b n (sw2 z2 (j3) (j3))) := Lib.hid (by
                              have h := HR43.out.sw2 (i := j3) (j := j3) (by omega) (by omega)
                              rw [HSX.out] at h
                              exact h)
                            have HK9 : Hid (Kw (fun x => x = b) w (((w43.setCell ⟨b, j3, none⟩ (.int .u64 sx)).setCell ⟨b, j3, none⟩ (.int .u64 sx)).drew)) := Lib.hid (((HK43.out.setCell (p := ⟨b, j3, none⟩) rfl _).setCell (p := ⟨b, j3, none⟩) rfl _).drew)
                            have HP9 : Hid (Sw j3 m z0 (sw2 z2 (j3) (j3))) := Lib.hid (.step (j3) (j3) (by omega) (by omega) HPZ.out)
                            clear sa0 sf0 sbw
                            generalize (((w43.setCell ⟨b, j3, none⟩ (.int .u64 sx)).setCell ⟨b, j3, none⟩ (.int .u64 sx)).drew) = w9 at *
                            go_wp2_with (fail)
                            go_ret2
                            exact ⟨_, _, _, rfl, HR9.out, HP9.out, Nat.le_refl _, by omega, HQ.out, HK9.out⟩
                        · obtain ⟨sa0, sf0⟩ := HR43.out.2 (j3) (by omega)
                          obtain ⟨sa1, sf1⟩ := HR43.out.2 (a) (by omega)
                          have sbw := HR43.out.1
                          obtain ⟨sx, hsx⟩ : ∃ x, z2 (j3) = x := ⟨_, rfl⟩
                          obtain ⟨sy, hsy⟩ : ∃ y, z2 (a) = y := ⟨_, rfl⟩
                          rw [hsx] at sa0
                          rw [hsy] at sa1
                          have HSX := Lib.hid hsx
                          have HSY := Lib.hid hsy
                          clear hsx hsy
                          go_wp2_with (fail)
                          go_region
                          have HR9 : Hid (RowI (((w43.setCell ⟨b, j3, none⟩ (.int .u64 sy)).setCell ⟨b, a, none⟩ (.int .u64 sx)).drew) b n (sw2 z2 (j3) (a))) := Lib.hid (by
                            have h := HR43.out.sw2 (i := j3) (j := a) (by omega) (by omega)
                            rw [HSX.out, HSY.out] at h
                            exact h)
                          have HK9 : Hid (Kw (fun x => x = b) w (((w43.setCell ⟨b, j3, none⟩ (.int .u64 sy)).setCell ⟨b, a, none⟩ (.int .u64 sx)).drew)) := Lib.hid (((HK43.out.setCell (p := ⟨b, j3, none⟩) rfl _).setCell (p := ⟨b, a, none⟩) rfl _).drew)
                          have HP9 : Hid (Sw a m z0 (sw2 z2 (j3) (a))) := Lib.hid (.step (j3) (a) (by omega) (by omega) HPZ.out)
                          clear sa0 sf0 sa1 sf1 sbw
                          generalize (((w43.setCell ⟨b, j3, none⟩ (.int .u64 sy)).setCell ⟨b, a, none⟩ (.int .u64 sx)).drew) = w9 at *
                          go_wp2_with (fail)
                          go_ret2
                          exact ⟨_, _, _, rfl, HR9.out, HP9.out, by omega, by omega, HQ.out, HK9.out⟩
            · have HV : Hid (HiP z1 a m (j1 - 1)) := Lib.hid (fun k h1 h2 => by
                by_cases hk : k = j1
                · rw [hk, HXp.out, HXq.out]; omega
                · exact HHI1.out k (by omega) h2)
              obtain ⟨rap, rfp⟩ := HRJ1.out.2 (j1) (by omega)
              rw [HXp.out] at rap
              have rqp := ext_cell rap
              obtain ⟨raq, rfq⟩ := HRJ1.out.2 (a) (by omega)
              rw [HXq.out] at raq
              have rqq := ext_cell raq
              have rbw := HRJ1.out.1
              have hd : decide (xp < xq) = false := decide_eq_false hpq
              have HLS : Hid (∀ w, Calls Try.prog 58 #[.int .u64 xp, .int .u64 xq] w fun e w' => e = .returned (.bool false) ∧ w = w') := Lib.hid (fun w => by have h := HL.out xp xq w; rwa [hd] at h)
              clear hd
              go_wp2_with (fail)
              refine wp_region_ext (by kernel_rfl) (by kernel_rfl) ?_
              repeat (first | rw [G0.out] | rw [G1.out] | go_big_quiet_step ((go_at_call 58; exact ext_calls_same (HLS.out _))))
              refine wpQuiet_nil ?_
              rintro w2 ⟨⟨_, hbx⟩, rfl⟩
              have HR2 : Hid (RowI w2 b n z1) := Lib.hid (HRJ1.out.below hbx)
              have HK2 := Lib.hid (HKJ1.out.trans (Kw.ofBelow hbx))
              clear hbx rbw rap rfp rqp raq rfq rqq HLS
              clear hpq uj0 uj1
              have hje : ((j1 - 1 : Nat) : Int) = (j1 : Int) - 1 := by omega
              have HJE := Lib.hid hje
              clear hje
              go_wp2_with (fail)
              go_roundw
              case rel => exact ⟨j1 - 1, by omega, by omega, by rw [HJE.out], HV.out, HR2.out, HK2.out⟩
              case measure => simp [intOf]; omega
          · have G0 : Hid (decide ((i1 : Int) ≤ (j1 : Int)) = false) := Lib.hid (decide_eq_false (by omega))
            have G1 : Hid (decide (i1 ≤ j1) = false) := Lib.hid (decide_eq_false hle21)
            have rbw := HRJ1.out.1
            go_wp2_with (fail)
            refine wp_region_ext (by kernel_rfl) (by kernel_rfl) ?_
            repeat (first | rw [G0.out] | rw [G1.out] | go_big_quiet_step (fail))
            refine wpQuiet_nil ?_
            rintro w41 ⟨⟨_, hbx⟩, rfl⟩
            have HR41 : Hid (RowI w41 b n z1) := Lib.hid (HRJ1.out.below hbx)
            have HK41 := Lib.hid (HKJ1.out.trans (Kw.ofBelow hbx))
            clear hbx rbw
            clear G0 G1
            have hgt : (j1 : Int) < (i1 : Int) := by omega
            have hie : Hid (i1 = j1 + 1) := Lib.hid (by omega)
            have haj : a ≤ j1 := by omega
            have HQ : Hid (Parts (sw2 z1 j1 a) a m j1) := Lib.hid (parts_end (by have := HLO1.out; rwa [hie.out] at this) HHI1.out haj)
            have ua0 : (0 : Int) ≤ (a : Int) := by omega
            have ua1 : (a : Int) < (n : Int) := by omega
            have uj0 : (0 : Int) ≤ (j1 : Int) := by omega
            have uj1 : (j1 : Int) < (n : Int) := by omega
            by_cases hja : j1 = a
            · have HJA := Lib.hid hja
              subst hja
              obtain ⟨sa0, sf0⟩ := HR41.out.2 (j1) (by omega)
              have sbw := HR41.out.1
              obtain ⟨sx, hsx⟩ : ∃ x, z1 (j1) = x := ⟨_, rfl⟩
              rw [hsx] at sa0
              have HSX := Lib.hid hsx
              clear hsx
              go_wp2_with (fail)
              go_region
              all_goals
                have HR9 : Hid (RowI (((w41.setCell ⟨b, j1, none⟩ (.int .u64 sx)).setCell ⟨b, j1, none⟩ (.int .u64 sx)).drew) b n (sw2 z1 (j1) (j1))) := Lib.hid (by
                  have h := HR41.out.sw2 (i := j1) (j := j1) (by omega) (by omega)
                  rw [HSX.out] at h
                  exact h)
                have HK9 : Hid (Kw (fun x => x = b) w (((w41.setCell ⟨b, j1, none⟩ (.int .u64 sx)).setCell ⟨b, j1, none⟩ (.int .u64 sx)).drew)) := Lib.hid (((HK41.out.setCell (p := ⟨b, j1, none⟩) rfl _).setCell (p := ⟨b, j1, none⟩) rfl _).drew)
                have HP9 : Hid (Sw j1 m z0 (sw2 z1 (j1) (j1))) := Lib.hid (.step (j1) (j1) (by omega) (by omega) HP1.out)
                clear sa0 sf0 sbw
                generalize (((w41.setCell ⟨b, j1, none⟩ (.int .u64 sx)).setCell ⟨b, j1, none⟩ (.int .u64 sx)).drew) = w9 at *
                go_wp2_with (fail)
                go_ret2
                exact ⟨_, _, _, rfl, HR9.out, HP9.out, Nat.le_refl _, by omega, HQ.out, HK9.out⟩
            · obtain ⟨sa0, sf0⟩ := HR41.out.2 (j1) (by omega)
              obtain ⟨sa1, sf1⟩ := HR41.out.2 (a) (by omega)
              have sbw := HR41.out.1
              obtain ⟨sx, hsx⟩ : ∃ x, z1 (j1) = x := ⟨_, rfl⟩
              obtain ⟨sy, hsy⟩ : ∃ y, z1 (a) = y := ⟨_, rfl⟩
              rw [hsx] at sa0
              rw [hsy] at sa1
              have HSX := Lib.hid hsx
              have HSY := Lib.hid hsy
              clear hsx hsy
              go_wp2_with (fail)
              go_region
              have HR9 : Hid (RowI (((w41.setCell ⟨b, j1, none⟩ (.int .u64 sy)).setCell ⟨b, a, none⟩ (.int .u64 sx)).drew) b n (sw2 z1 (j1) (a))) := Lib.hid (by
                have h := HR41.out.sw2 (i := j1) (j := a) (by omega) (by omega)
                rw [HSX.out, HSY.out] at h
                exact h)
              have HK9 : Hid (Kw (fun x => x = b) w (((w41.setCell ⟨b, j1, none⟩ (.int .u64 sy)).setCell ⟨b, a, none⟩ (.int .u64 sx)).drew)) := Lib.hid (((HK41.out.setCell (p := ⟨b, j1, none⟩) rfl _).setCell (p := ⟨b, a, none⟩) rfl _).drew)
              have HP9 : Hid (Sw a m z0 (sw2 z1 (j1) (a))) := Lib.hid (.step (j1) (a) (by omega) (by omega) HP1.out)
              clear sa0 sf0 sa1 sf1 sbw
              generalize (((w41.setCell ⟨b, j1, none⟩ (.int .u64 sy)).setCell ⟨b, a, none⟩ (.int .u64 sx)).drew) = w9 at *
              go_wp2_with (fail)
              go_ret2
              exact ⟨_, _, _, rfl, HR9.out, HP9.out, by omega, by omega, HQ.out, HK9.out⟩
    · have G0 : Hid (decide ((i1 : Int) ≤ (j0 : Int)) = false) := Lib.hid (decide_eq_false (by omega))
      have G1 : Hid (decide (i1 ≤ j0) = false) := Lib.hid (decide_eq_false hle1)
      have rbw := HRI1.out.1
      go_wp2_with (fail)
      refine wp_region_ext (by kernel_rfl) (by kernel_rfl) ?_
      repeat (first | rw [G0.out] | rw [G1.out] | go_big_quiet_step (fail))
      refine wpQuiet_nil ?_
      rintro w21 ⟨⟨_, hbx⟩, rfl⟩
      have HR21 : Hid (RowI w21 b n z1) := Lib.hid (HRI1.out.below hbx)
      have HK21 := Lib.hid (HKI1.out.trans (Kw.ofBelow hbx))
      clear hbx rbw
      clear G0 G1
      go_wp2_with (fail)
      go_loopw [11] (fun vj wr => ∃ j : Nat, i1 ≤ j + 1 ∧ j ≤ j0 ∧ vj = .int .i64 j ∧ HiP z1 a m j ∧ RowI wr b n z1 ∧ Kw (fun x => x = b) w wr) (fun j _ => (intOf j).toNat)
      case atStart => exact ⟨j0, by omega, by omega, rfl, (fun k h1 h2 => by omega), HR21.out, HK21.out⟩
      case round =>
        obtain ⟨j1, hji1, hjm1, rfl, hhi, hr, hk⟩ := hrel
        have HHI1 := Lib.hid hhi
        have HRJ1 := Lib.hid hr
        have HKJ1 := Lib.hid hk
        clear hhi hr hk
        by_cases hle21 : i1 ≤ j1
        · have G0 : Hid (decide ((i1 : Int) ≤ (j1 : Int)) = true) := Lib.hid (decide_eq_true (by omega))
          have G1 : Hid (decide (i1 ≤ j1) = true) := Lib.hid (decide_eq_true hle21)
          have uj0 : (0 : Int) ≤ (j1 : Int) := by omega
          have uj1 : (j1 : Int) < (n : Int) := by omega
          obtain ⟨xp, hxp⟩ : ∃ x, z1 (j1) = x := ⟨_, rfl⟩
          have HXp := Lib.hid hxp
          clear hxp
          obtain ⟨xq, hxq⟩ : ∃ x, z1 (a) = x := ⟨_, rfl⟩
          have HXq := Lib.hid hxq
          clear hxq
          by_cases hpq : xp < xq
          · have HNJ1 : Hid (z1 j1 < z1 a) := Lib.hid (by rw [HXp.out, HXq.out]; exact hpq)
            obtain ⟨rap, rfp⟩ := HRJ1.out.2 (j1) (by omega)
            rw [HXp.out] at rap
            have rqp := ext_cell rap
            obtain ⟨raq, rfq⟩ := HRJ1.out.2 (a) (by omega)
            rw [HXq.out] at raq
            have rqq := ext_cell raq
            have rbw := HRJ1.out.1
            have hd : decide (xp < xq) = true := decide_eq_true hpq
            have HLS : Hid (∀ w, Calls Try.prog 58 #[.int .u64 xp, .int .u64 xq] w fun e w' => e = .returned (.bool true) ∧ w = w') := Lib.hid (fun w => by have h := HL.out xp xq w; rwa [hd] at h)
            clear hd
            go_wp2_with (fail)
            refine wp_region_ext (by kernel_rfl) (by kernel_rfl) ?_
            repeat (first | rw [G0.out] | rw [G1.out] | go_big_quiet_step ((go_at_call 58; exact ext_calls_same (HLS.out _))))
            refine wpQuiet_nil ?_
            rintro w41 ⟨⟨_, hbx⟩, rfl⟩
            have HR41 : Hid (RowI w41 b n z1) := Lib.hid (HRJ1.out.below hbx)
            have HK41 := Lib.hid (HKJ1.out.trans (Kw.ofBelow hbx))
            clear hbx rbw rap rfp rqp raq rfq rqq HLS
            clear hpq uj0 uj1 G0 G1 HXp HXq
            exfalso
            omega
          · have HV : Hid (HiP z1 a m (j1 - 1)) := Lib.hid (fun k h1 h2 => by
              by_cases hk : k = j1
              · rw [hk, HXp.out, HXq.out]; omega
              · exact HHI1.out k (by omega) h2)
            obtain ⟨rap, rfp⟩ := HRJ1.out.2 (j1) (by omega)
            rw [HXp.out] at rap
            have rqp := ext_cell rap
            obtain ⟨raq, rfq⟩ := HRJ1.out.2 (a) (by omega)
            rw [HXq.out] at raq
            have rqq := ext_cell raq
            have rbw := HRJ1.out.1
            have hd : decide (xp < xq) = false := decide_eq_false hpq
            have HLS : Hid (∀ w, Calls Try.prog 58 #[.int .u64 xp, .int .u64 xq] w fun e w' => e = .returned (.bool false) ∧ w = w') := Lib.hid (fun w => by have h := HL.out xp xq w; rwa [hd] at h)
            clear hd
            go_wp2_with (fail)
            refine wp_region_ext (by kernel_rfl) (by kernel_rfl) ?_
            repeat (first | rw [G0.out] | rw [G1.out] | go_big_quiet_step ((go_at_call 58; exact ext_calls_same (HLS.out _))))
            refine wpQuiet_nil ?_
            rintro w2 ⟨⟨_, hbx⟩, rfl⟩
            have HR2 : Hid (RowI w2 b n z1) := Lib.hid (HRJ1.out.below hbx)
            have HK2 := Lib.hid (HKJ1.out.trans (Kw.ofBelow hbx))
            clear hbx rbw rap rfp rqp raq rfq rqq HLS
            clear hpq uj0 uj1
            have hje : ((j1 - 1 : Nat) : Int) = (j1 : Int) - 1 := by omega
            have HJE := Lib.hid hje
            clear hje
            go_wp2_with (fail)
            go_roundw
            case rel => exact ⟨j1 - 1, by omega, by omega, by rw [HJE.out], HV.out, HR2.out, HK2.out⟩
            case measure => simp [intOf]; omega
        · have G0 : Hid (decide ((i1 : Int) ≤ (j1 : Int)) = false) := Lib.hid (decide_eq_false (by omega))
          have G1 : Hid (decide (i1 ≤ j1) = false) := Lib.hid (decide_eq_false hle21)
          have rbw := HRJ1.out.1
          go_wp2_with (fail)
          refine wp_region_ext (by kernel_rfl) (by kernel_rfl) ?_
          repeat (first | rw [G0.out] | rw [G1.out] | go_big_quiet_step (fail))
          refine wpQuiet_nil ?_
          rintro w41 ⟨⟨_, hbx⟩, rfl⟩
          have HR41 : Hid (RowI w41 b n z1) := Lib.hid (HRJ1.out.below hbx)
          have HK41 := Lib.hid (HKJ1.out.trans (Kw.ofBelow hbx))
          clear hbx rbw
          clear G0 G1
          have hgt : (j1 : Int) < (i1 : Int) := by omega
          have hie : Hid (i1 = j1 + 1) := Lib.hid (by omega)
          have haj : a ≤ j1 := by omega
          have HQ : Hid (Parts (sw2 z1 j1 a) a m j1) := Lib.hid (parts_end (by have := HLO1.out; rwa [hie.out] at this) HHI1.out haj)
          have ua0 : (0 : Int) ≤ (a : Int) := by omega
          have ua1 : (a : Int) < (n : Int) := by omega
          have uj0 : (0 : Int) ≤ (j1 : Int) := by omega
          have uj1 : (j1 : Int) < (n : Int) := by omega
          by_cases hja : j1 = a
          · have HJA := Lib.hid hja
            subst hja
            obtain ⟨sa0, sf0⟩ := HR41.out.2 (j1) (by omega)
            have sbw := HR41.out.1
            obtain ⟨sx, hsx⟩ : ∃ x, z1 (j1) = x := ⟨_, rfl⟩
            rw [hsx] at sa0
            have HSX := Lib.hid hsx
            clear hsx
            go_wp2_with (fail)
            go_region
            all_goals
              have HR9 : Hid (RowI (((w41.setCell ⟨b, j1, none⟩ (.int .u64 sx)).setCell ⟨b, j1, none⟩ (.int .u64 sx)).drew) b n (sw2 z1 (j1) (j1))) := Lib.hid (by
                have h := HR41.out.sw2 (i := j1) (j := j1) (by omega) (by omega)
                rw [HSX.out] at h
                exact h)
              have HK9 : Hid (Kw (fun x => x = b) w (((w41.setCell ⟨b, j1, none⟩ (.int .u64 sx)).setCell ⟨b, j1, none⟩ (.int .u64 sx)).drew)) := Lib.hid (((HK41.out.setCell (p := ⟨b, j1, none⟩) rfl _).setCell (p := ⟨b, j1, none⟩) rfl _).drew)
              have HP9 : Hid (Sw j1 m z0 (sw2 z1 (j1) (j1))) := Lib.hid (.step (j1) (j1) (by omega) (by omega) HP1.out)
              clear sa0 sf0 sbw
              generalize (((w41.setCell ⟨b, j1, none⟩ (.int .u64 sx)).setCell ⟨b, j1, none⟩ (.int .u64 sx)).drew) = w9 at *
              go_wp2_with (fail)
              go_ret2
              exact ⟨_, _, _, rfl, HR9.out, HP9.out, Nat.le_refl _, by omega, HQ.out, HK9.out⟩
          · obtain ⟨sa0, sf0⟩ := HR41.out.2 (j1) (by omega)
            obtain ⟨sa1, sf1⟩ := HR41.out.2 (a) (by omega)
            have sbw := HR41.out.1
            obtain ⟨sx, hsx⟩ : ∃ x, z1 (j1) = x := ⟨_, rfl⟩
            obtain ⟨sy, hsy⟩ : ∃ y, z1 (a) = y := ⟨_, rfl⟩
            rw [hsx] at sa0
            rw [hsy] at sa1
            have HSX := Lib.hid hsx
            have HSY := Lib.hid hsy
            clear hsx hsy
            go_wp2_with (fail)
            go_region
            have HR9 : Hid (RowI (((w41.setCell ⟨b, j1, none⟩ (.int .u64 sy)).setCell ⟨b, a, none⟩ (.int .u64 sx)).drew) b n (sw2 z1 (j1) (a))) := Lib.hid (by
              have h := HR41.out.sw2 (i := j1) (j := a) (by omega) (by omega)
              rw [HSX.out, HSY.out] at h
              exact h)
            have HK9 : Hid (Kw (fun x => x = b) w (((w41.setCell ⟨b, j1, none⟩ (.int .u64 sy)).setCell ⟨b, a, none⟩ (.int .u64 sx)).drew)) := Lib.hid (((HK41.out.setCell (p := ⟨b, j1, none⟩) rfl _).setCell (p := ⟨b, a, none⟩) rfl _).drew)
            have HP9 : Hid (Sw a m z0 (sw2 z1 (j1) (a))) := Lib.hid (.step (j1) (a) (by omega) (by omega) HP1.out)
            clear sa0 sf0 sa1 sf1 sbw
            generalize (((w41.setCell ⟨b, j1, none⟩ (.int .u64 sy)).setCell ⟨b, a, none⟩ (.int .u64 sx)).drew) = w9 at *
            go_wp2_with (fail)
            go_ret2
            exact ⟨_, _, _, rfl, HR9.out, HP9.out, by omega, by omega, HQ.out, HK9.out⟩
end Go.Proofs.Ytmalcekbhnkfgaa
