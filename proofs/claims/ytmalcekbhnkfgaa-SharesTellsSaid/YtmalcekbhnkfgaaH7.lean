/- Contract of partialInsertionSort. Conditions: as each theorem states them. -/
import Derived.Test.YtmalcekbhnkfgaaH6
namespace Go.Proofs.Ytmalcekbhnkfgaa
open Go.RowKit Go.Maps
set_option linter.unusedVariables false
set_option linter.unusedSimpArgs false

/-- What partialInsertionSort answers. -/
def PinsR (w : World) (b n a m : Nat) (z0 : Nat → Int) (e : Ending) (w' : World) : Prop := ∃ (r : Bool) (z : Nat → Int), e = .returned (.bool r) ∧ RowI w' b n z ∧ Sw a m z0 z ∧ (r = true → Srt z a m) ∧ Kw (fun x => x = b) w w'
/-- None of the part is less than the one ahead of it. -/
def PreA (z : Nat → Int) (a m : Nat) : Prop := 0 < a → ∀ k, a ≤ k → k < m → z (a - 1) ≤ z k
set_option maxRecDepth 100000 in
set_option maxHeartbeats 64000000 in
theorem pins_part (b n cap a m : Nat) (z0 : Nat → Int) (w : World) (hz : RowI w b n z0) (hn : n ≤ 1000000) (hnc : n ≤ cap) (hmn : m ≤ n) (ham : a < m) (hpre : PreA z0 a m) :
    Calls Try.prog 57 #[.slice (some ⟨b, 0, none⟩) n cap, .int .i64 a, .int .i64 m] w (PinsR w b n a m z0) := by
  have HZ := Lib.hid hz
  have HL := Lib.hid less_u
  have HPRE := Lib.hid hpre
  clear hz hpre
  go_enter Try.func57, Try.ntmps57
  go_wp2_with (fail)
  go_loopw [7, 8] (fun vi vk wr => ∃ (i k : Nat) (z : Nat → Int), a + 1 ≤ i ∧ i ≤ m ∧ k ≤ 5 ∧ vi = .int .i64 i ∧ vk = .int .i64 k ∧ Srt z a i ∧ RowI wr b n z ∧ Sw a m z0 z ∧ Kw (fun x => x = b) w wr) (fun _ k _ => 5 - (intOf k).toNat)
  case atStart => exact ⟨a + 1, 0, z0, Nat.le_refl _, by omega, by omega, by first | rfl | (push_cast; rfl) | go_num, rfl, Srt.one _ _ _ (Nat.le_refl _), HZ.out, .refl, Kw.refl _ _⟩
  case round =>
    obtain ⟨i, k, z, hai, him, hk5, rfl, rfl, hs, hr, hp, hk⟩ := hrel
    have HS := Lib.hid hs
    have HR := Lib.hid hr
    have HP := Lib.hid hp
    have HK := Lib.hid hk
    clear hs hr hp hk
    by_cases hk : k < 5
    · have hki : (k : Int) < 5 := by omega
      go_wp2_with (fail)
      go_loopw [7] (fun vi wr => ∃ i1 : Nat, a + 1 ≤ i1 ∧ i1 ≤ m ∧ vi = .int .i64 i1 ∧ Srt z a i1 ∧ RowI wr b n z ∧ Kw (fun x => x = b) w wr) (fun i _ => n - (intOf i).toNat)
      case atStart => exact ⟨i, hai, him, rfl, HS.out, HR.out, HK.out⟩
      case round =>
        obtain ⟨i1, hai1, him1, rfl, hs, hr, hk⟩ := hrel
        have HSI := Lib.hid hs
        have HRI := Lib.hid hr
        have HKI := Lib.hid hk
        clear hs hr hk
        by_cases hi : i1 < m
        · have G0 : Hid (decide ((i1 : Int) < (m : Int)) = true) := Lib.hid (decide_eq_true (by omega))
          have G1 : Hid (decide (i1 < m) = true) := Lib.hid (decide_eq_true hi)
          have ui0 : (0 : Int) ≤ (i1 : Int) := by omega
          have ui1 : (i1 : Int) < (n : Int) := by omega
          have uip0 : (0 : Int) ≤ (i1 : Int) - 1 := by omega
          have uip1 : (i1 : Int) - 1 < (n : Int) := by omega
          have uipn : ((i1 : Int) - 1).toNat = i1 - 1 := by omega
          obtain ⟨xp, hxp⟩ : ∃ x, z (i1) = x := ⟨_, rfl⟩
          have HXp := Lib.hid hxp
          clear hxp
          obtain ⟨xq, hxq⟩ : ∃ x, z (i1 - 1) = x := ⟨_, rfl⟩
          have HXq := Lib.hid hxq
          clear hxq
          by_cases hpq : xp < xq
          · obtain ⟨rap, rfp⟩ := HRI.out.2 (i1) (by omega)
            rw [HXp.out] at rap
            have rqp := ext_cell rap
            obtain ⟨raq, rfq⟩ := HRI.out.2 (i1 - 1) (by omega)
            rw [HXq.out] at raq
            have rqq := ext_cell raq
            have rbw := HRI.out.1
            have hd : decide (xp < xq) = true := decide_eq_true hpq
            have HLS : Hid (∀ w, Calls Try.prog 58 #[.int .u64 xp, .int .u64 xq] w fun e w' => e = .returned (.bool true) ∧ w = w') := Lib.hid (fun w => by have h := HL.out xp xq w; rwa [hd] at h)
            clear hd
            go_wp2_with (fail)
            refine wp_region_ext (by kernel_rfl) (by kernel_rfl) ?_
            repeat (first | rw [G0.out] | rw [G1.out] | go_big_quiet_step ((go_at_call 58; exact ext_calls_same (HLS.out _))))
            refine wpQuiet_nil ?_
            rintro w2 ⟨⟨_, hbx⟩, rfl⟩
            have HR2 : Hid (RowI w2 b n z) := Lib.hid (HRI.out.below hbx)
            have HK2 := Lib.hid (HKI.out.trans (Kw.ofBelow hbx))
            clear hbx rbw rap rfp rqp raq rfq rqq HLS
            clear hpq HXp HXq ui0 ui1 uip0 uip1 uipn G0 G1
            have ui0 : (0 : Int) ≤ (i1 : Int) := by omega
            have ui1 : (i1 : Int) < (n : Int) := by omega
            have uip0 : (0 : Int) ≤ (i1 : Int) - 1 := by omega
            have uip1 : (i1 : Int) - 1 < (n : Int) := by omega
            have uipn : ((i1 : Int) - 1).toNat = i1 - 1 := by omega
            have hne : ¬ (i1 : Int) = (m : Int) := by omega
            have hneb : ((i1 : Int) == (m : Int)) = false := by simpa using hne
            by_cases h50 : (m : Int) - (a : Int) < 50
            · go_wp2_with (fail)
              go_ret
              exact ⟨false, z, rfl, HR2.out, HP.out, (fun h => by cases h), HK2.out⟩
            · clear hneb
              obtain ⟨sa0, sf0⟩ := HR2.out.2 (i1) (by omega)
              obtain ⟨sa1, sf1⟩ := HR2.out.2 (i1 - 1) (by omega)
              have sbw := HR2.out.1
              obtain ⟨sx, hsx⟩ : ∃ x, z (i1) = x := ⟨_, rfl⟩
              obtain ⟨sy, hsy⟩ : ∃ y, z (i1 - 1) = y := ⟨_, rfl⟩
              rw [hsx] at sa0
              rw [hsy] at sa1
              have HSX := Lib.hid hsx
              have HSY := Lib.hid hsy
              clear hsx hsy
              have hneb : ((i1 : Int) == (m : Int)) = false := by simpa using hne
              go_wp2_with (fail)
              go_region
              have HR8 : Hid (RowI (((w2.setCell ⟨b, i1, none⟩ (.int .u64 sy)).setCell ⟨b, i1 - 1, none⟩ (.int .u64 sx)).drew) b n (sw2 z (i1) (i1 - 1))) := Lib.hid (by
                have h := HR2.out.sw2 (i := i1) (j := i1 - 1) (by omega) (by omega)
                rw [HSX.out, HSY.out] at h
                exact h)
              have HK8 : Hid (Kw (fun x => x = b) w (((w2.setCell ⟨b, i1, none⟩ (.int .u64 sy)).setCell ⟨b, i1 - 1, none⟩ (.int .u64 sx)).drew)) := Lib.hid (((HK2.out.setCell (p := ⟨b, i1, none⟩) rfl _).setCell (p := ⟨b, i1 - 1, none⟩) rfl _).drew)
              have HP8 : Hid (Sw a m z0 (sw2 z (i1) (i1 - 1))) := Lib.hid (.step (i1) (i1 - 1) (by omega) (by omega) HP.out)
              clear sa0 sf0 sa1 sf1 sbw
              generalize (((w2.setCell ⟨b, i1, none⟩ (.int .u64 sy)).setCell ⟨b, i1 - 1, none⟩ (.int .u64 sx)).drew) = w8 at *
              clear ui0 ui1 uip0 uip1 uipn
              by_cases hia : (2 : Int) ≤ (i1 : Int) - (a : Int)
              · have HI8 : Hid (InsA (sw2 z i1 (i1 - 1)) a (i1 - 1) (i1 - 1)) := Lib.hid (fun p q h0 h1 h2 h3 => by
                  rw [sw2_other z (by omega) (by omega), sw2_other z (by omega) (by omega)]
                  exact HSI.out p q h0 h1 (by omega))
                have hje : ((i1 - 1 : Nat) : Int) = (i1 : Int) - 1 := by omega
                have HJE0 := Lib.hid hje
                clear hje
                go_wp2_with (fail)
                go_loopw [9] (fun vj wr => ∃ (j : Nat) (z : Nat → Int), a ≤ j ∧ j ≤ i1 - 1 ∧ vj = .int .i64 j ∧ InsA z a (i1 - 1) j ∧ RowI wr b n z ∧ Sw a m z0 z ∧ Kw (fun x => x = b) w wr) (fun j _ => (intOf j).toNat)
                case atStart => exact ⟨i1 - 1, _, by omega, Nat.le_refl _, by rw [HJE0.out], HI8.out, HR8.out, HP8.out, HK8.out⟩
                case round =>
                  obtain ⟨j4, z4, hj4, hji4, rfl, hs, hr, hp, hk⟩ := hrel
                  have HI4 := Lib.hid hs
                  have HR4 := Lib.hid hr
                  have HP4 := Lib.hid hp
                  have HK4 := Lib.hid hk
                  clear hs hr hp hk
                  by_cases hj1 : 1 ≤ j4
                  · have hl1 : (1 : Int) ≤ (j4 : Int) := by omega
                    have uj0 : (0 : Int) ≤ (j4 : Int) := by omega
                    have uj1 : (j4 : Int) < (n : Int) := by omega
                    have ujp0 : (0 : Int) ≤ (j4 : Int) - 1 := by omega
                    have ujp1 : (j4 : Int) - 1 < (n : Int) := by omega
                    have ujpn : ((j4 : Int) - 1).toNat = j4 - 1 := by omega
                    obtain ⟨xp, hxp⟩ : ∃ x, z4 (j4) = x := ⟨_, rfl⟩
                    have HXp := Lib.hid hxp
                    clear hxp
                    obtain ⟨xq, hxq⟩ : ∃ x, z4 (j4 - 1) = x := ⟨_, rfl⟩
                    have HXq := Lib.hid hxq
                    clear hxq
                    by_cases hpq : xp < xq
                    · have haj4 : a < j4 := by
                        rcases Nat.lt_or_ge a j4 with h | h
                        · exact h
                        · exfalso
                          have e : j4 = a := by omega
                          have hp : z0 (a - 1) ≤ z4 j4 := (HP4.out.all (P := fun x => z0 (a - 1) ≤ x) (HPRE.out (by omega))) j4 (by omega) (by omega)
                          have h1 := HXp.out
                          have h2 := HXq.out
                          rw [HP4.out.out (by omega)] at h2
                          rw [e] at h2 hp h1
                          omega
                      have HLT : Hid (z4 j4 < z4 (j4 - 1)) := Lib.hid (by rw [HXp.out, HXq.out]; exact hpq)
                      obtain ⟨rap, rfp⟩ := HR4.out.2 (j4) (by omega)
                      rw [HXp.out] at rap
                      have rqp := ext_cell rap
                      obtain ⟨raq, rfq⟩ := HR4.out.2 (j4 - 1) (by omega)
                      rw [HXq.out] at raq
                      have rqq := ext_cell raq
                      have rbw := HR4.out.1
                      have hd : decide (xp < xq) = true := decide_eq_true hpq
                      have HLS : Hid (∀ w, Calls Try.prog 58 #[.int .u64 xp, .int .u64 xq] w fun e w' => e = .returned (.bool true) ∧ w = w') := Lib.hid (fun w => by have h := HL.out xp xq w; rwa [hd] at h)
                      clear hd
                      go_wp2_with (fail)
                      refine wp_region_ext (by kernel_rfl) (by kernel_rfl) ?_
                      repeat (first | fail | go_big_quiet_step ((go_at_call 58; exact ext_calls_same (HLS.out _))))
                      refine wpQuiet_nil ?_
                      rintro w6 ⟨⟨_, hbx⟩, rfl⟩
                      have HR6 : Hid (RowI w6 b n z4) := Lib.hid (HR4.out.below hbx)
                      have HK6 := Lib.hid (HK4.out.trans (Kw.ofBelow hbx))
                      clear hbx rbw rap rfp rqp raq rfq rqq HLS
                      clear hpq HXp HXq
                      obtain ⟨sa0, sf0⟩ := HR6.out.2 (j4) (by omega)
                      obtain ⟨sa1, sf1⟩ := HR6.out.2 (j4 - 1) (by omega)
                      have sbw := HR6.out.1
                      obtain ⟨sx, hsx⟩ : ∃ x, z4 (j4) = x := ⟨_, rfl⟩
                      obtain ⟨sy, hsy⟩ : ∃ y, z4 (j4 - 1) = y := ⟨_, rfl⟩
                      rw [hsx] at sa0
                      rw [hsy] at sa1
                      have HSX := Lib.hid hsx
                      have HSY := Lib.hid hsy
                      clear hsx hsy
                      go_wp2_with (fail)
                      go_region
                      have HR7 : Hid (RowI (((w6.setCell ⟨b, j4, none⟩ (.int .u64 sy)).setCell ⟨b, j4 - 1, none⟩ (.int .u64 sx)).drew) b n (sw2 z4 (j4) (j4 - 1))) := Lib.hid (by
                        have h := HR6.out.sw2 (i := j4) (j := j4 - 1) (by omega) (by omega)
                        rw [HSX.out, HSY.out] at h
                        exact h)
                      have HK7 : Hid (Kw (fun x => x = b) w (((w6.setCell ⟨b, j4, none⟩ (.int .u64 sy)).setCell ⟨b, j4 - 1, none⟩ (.int .u64 sx)).drew)) := Lib.hid (((HK6.out.setCell (p := ⟨b, j4, none⟩) rfl _).setCell (p := ⟨b, j4 - 1, none⟩) rfl _).drew)
                      have HP7 : Hid (Sw a m z0 (sw2 z4 (j4) (j4 - 1))) := Lib.hid (.step (j4) (j4 - 1) (by omega) (by omega) HP4.out)
                      clear sa0 sf0 sa1 sf1 sbw
                      generalize (((w6.setCell ⟨b, j4, none⟩ (.int .u64 sy)).setCell ⟨b, j4 - 1, none⟩ (.int .u64 sx)).drew) = w7 at *
                      have HI7 : Hid (InsA (sw2 z4 j4 (j4 - 1)) a (i1 - 1) (j4 - 1)) := Lib.hid (HI4.out.swap haj4 (by omega) HLT.out)
                      have hje : ((j4 - 1 : Nat) : Int) = (j4 : Int) - 1 := by omega
                      have HJE := Lib.hid hje
                      clear hje uj0 uj1 ujp0 ujp1 ujpn
                      go_wp2_with (fail)
                      go_roundw
                      case rel => exact ⟨j4 - 1, _, by omega, by omega, by rw [HJE.out], HI7.out, HR7.out, HP7.out, HK7.out⟩
                      case measure => simp [intOf]; omega
                    · have HS4 : Hid (Srt z4 a i1) := Lib.hid (by
                        have h : Srt z4 a (i1 - 1 + 1) := by
                          by_cases haj : j4 = a
                          · have := HI4.out
                            rw [haj] at this
                            exact this.done0
                          · exact HI4.out.done (by omega) (by omega) (by rw [HXp.out, HXq.out]; exact hpq)
                        rwa [show i1 - 1 + 1 = i1 by omega] at h)
                      obtain ⟨rap, rfp⟩ := HR4.out.2 (j4) (by omega)
                      rw [HXp.out] at rap
                      have rqp := ext_cell rap
                      obtain ⟨raq, rfq⟩ := HR4.out.2 (j4 - 1) (by omega)
                      rw [HXq.out] at raq
                      have rqq := ext_cell raq
                      have rbw := HR4.out.1
                      have hd : decide (xp < xq) = false := decide_eq_false hpq
                      have HLS : Hid (∀ w, Calls Try.prog 58 #[.int .u64 xp, .int .u64 xq] w fun e w' => e = .returned (.bool false) ∧ w = w') := Lib.hid (fun w => by have h := HL.out xp xq w; rwa [hd] at h)
                      clear hd
                      go_wp2_with (fail)
                      refine wp_region_ext (by kernel_rfl) (by kernel_rfl) ?_
                      repeat (first | fail | go_big_quiet_step ((go_at_call 58; exact ext_calls_same (HLS.out _))))
                      refine wpQuiet_nil ?_
                      rintro w9 ⟨⟨_, hbx⟩, rfl⟩
                      have HR9 : Hid (RowI w9 b n z4) := Lib.hid (HR4.out.below hbx)
                      have HK9 := Lib.hid (HK4.out.trans (Kw.ofBelow hbx))
                      clear hbx rbw rap rfp rqp raq rfq rqq HLS
                      clear hpq HXp HXq uj0 uj1 ujp0 ujp1 ujpn
                      by_cases hmi : (2 : Int) ≤ (m : Int) - (i1 : Int)
                      · go_wp2_with (fail)
                        go_loopw [10] (fun vj wr => ∃ (j : Nat) (z : Nat → Int), i1 + 1 ≤ j ∧ j ≤ m ∧ vj = .int .i64 j ∧ Srt z a i1 ∧ RowI wr b n z ∧ Sw a m z0 z ∧ Kw (fun x => x = b) w wr) (fun j _ => n - (intOf j).toNat)
                        case atStart => exact ⟨i1 + 1, z4, Nat.le_refl _, by omega, by first | rfl | (push_cast; rfl) | go_num, HS4.out, HR9.out, HP4.out, HK9.out⟩
                        case round =>
                          obtain ⟨j5, z5, hj5, hjm5, rfl, hs, hr, hp, hk⟩ := hrel
                          have HS5 := Lib.hid hs
                          have HR5 := Lib.hid hr
                          have HP5 := Lib.hid hp
                          have HK5 := Lib.hid hk
                          clear hs hr hp hk
                          by_cases hlt5 : j5 < m
                          · have hl5 : (j5 : Int) < (m : Int) := by omega
                            have uj0 : (0 : Int) ≤ (j5 : Int) := by omega
                            have uj1 : (j5 : Int) < (n : Int) := by omega
                            have ujp0 : (0 : Int) ≤ (j5 : Int) - 1 := by omega
                            have ujp1 : (j5 : Int) - 1 < (n : Int) := by omega
                            have ujpn : ((j5 : Int) - 1).toNat = j5 - 1 := by omega
                            obtain ⟨xp, hxp⟩ : ∃ x, z5 (j5) = x := ⟨_, rfl⟩
                            have HXp := Lib.hid hxp
                            clear hxp
                            obtain ⟨xq, hxq⟩ : ∃ x, z5 (j5 - 1) = x := ⟨_, rfl⟩
                            have HXq := Lib.hid hxq
                            clear hxq
                            by_cases hpq : xp < xq
                            · obtain ⟨rap, rfp⟩ := HR5.out.2 (j5) (by omega)
                              rw [HXp.out] at rap
                              have rqp := ext_cell rap
                              obtain ⟨raq, rfq⟩ := HR5.out.2 (j5 - 1) (by omega)
                              rw [HXq.out] at raq
                              have rqq := ext_cell raq
                              have rbw := HR5.out.1
                              have hd : decide (xp < xq) = true := decide_eq_true hpq
                              have HLS : Hid (∀ w, Calls Try.prog 58 #[.int .u64 xp, .int .u64 xq] w fun e w' => e = .returned (.bool true) ∧ w = w') := Lib.hid (fun w => by have h := HL.out xp xq w; rwa [hd] at h)
                              clear hd
                              go_wp2_with (fail)
                              refine wp_region_ext (by kernel_rfl) (by kernel_rfl) ?_
                              repeat (first | fail | go_big_quiet_step ((go_at_call 58; exact ext_calls_same (HLS.out _))))
                              refine wpQuiet_nil ?_
                              rintro w6 ⟨⟨_, hbx⟩, rfl⟩
                              have HR6 : Hid (RowI w6 b n z5) := Lib.hid (HR5.out.below hbx)
                              have HK6 := Lib.hid (HK5.out.trans (Kw.ofBelow hbx))
                              clear hbx rbw rap rfp rqp raq rfq rqq HLS
                              clear hpq HXp HXq
                              obtain ⟨sa0, sf0⟩ := HR6.out.2 (j5) (by omega)
                              obtain ⟨sa1, sf1⟩ := HR6.out.2 (j5 - 1) (by omega)
                              have sbw := HR6.out.1
                              obtain ⟨sx, hsx⟩ : ∃ x, z5 (j5) = x := ⟨_, rfl⟩
                              obtain ⟨sy, hsy⟩ : ∃ y, z5 (j5 - 1) = y := ⟨_, rfl⟩
                              rw [hsx] at sa0
                              rw [hsy] at sa1
                              have HSX := Lib.hid hsx
                              have HSY := Lib.hid hsy
                              clear hsx hsy
                              go_wp2_with (fail)
                              go_region
                              have HR7 : Hid (RowI (((w6.setCell ⟨b, j5, none⟩ (.int .u64 sy)).setCell ⟨b, j5 - 1, none⟩ (.int .u64 sx)).drew) b n (sw2 z5 (j5) (j5 - 1))) := Lib.hid (by
                                have h := HR6.out.sw2 (i := j5) (j := j5 - 1) (by omega) (by omega)
                                rw [HSX.out, HSY.out] at h
                                exact h)
                              have HK7 : Hid (Kw (fun x => x = b) w (((w6.setCell ⟨b, j5, none⟩ (.int .u64 sy)).setCell ⟨b, j5 - 1, none⟩ (.int .u64 sx)).drew)) := Lib.hid (((HK6.out.setCell (p := ⟨b, j5, none⟩) rfl _).setCell (p := ⟨b, j5 - 1, none⟩) rfl _).drew)
                              have HP7 : Hid (Sw a m z0 (sw2 z5 (j5) (j5 - 1))) := Lib.hid (.step (j5) (j5 - 1) (by omega) (by omega) HP5.out)
                              clear sa0 sf0 sa1 sf1 sbw
                              generalize (((w6.setCell ⟨b, j5, none⟩ (.int .u64 sy)).setCell ⟨b, j5 - 1, none⟩ (.int .u64 sx)).drew) = w7 at *
                              have HS7 : Hid (Srt (sw2 z5 j5 (j5 - 1)) a i1) := Lib.hid (fun p q h0 h1 h2 => by
                                rw [sw2_other z5 (by omega) (by omega), sw2_other z5 (by omega) (by omega)]
                                exact HS5.out p q h0 h1 h2)
                              clear uj0 uj1 ujp0 ujp1 ujpn
                              go_wp2_with (fail)
                              go_roundw
                              case rel => exact ⟨j5 + 1, _, by omega, by omega, by first | rfl | (push_cast; rfl) | go_num, HS7.out, HR7.out, HP7.out, HK7.out⟩
                              case measure => simp [intOf]; omega
                            · obtain ⟨rap, rfp⟩ := HR5.out.2 (j5) (by omega)
                              rw [HXp.out] at rap
                              have rqp := ext_cell rap
                              obtain ⟨raq, rfq⟩ := HR5.out.2 (j5 - 1) (by omega)
                              rw [HXq.out] at raq
                              have rqq := ext_cell raq
                              have rbw := HR5.out.1
                              have hd : decide (xp < xq) = false := decide_eq_false hpq
                              have HLS : Hid (∀ w, Calls Try.prog 58 #[.int .u64 xp, .int .u64 xq] w fun e w' => e = .returned (.bool false) ∧ w = w') := Lib.hid (fun w => by have h := HL.out xp xq w; rwa [hd] at h)
                              clear hd
                              go_wp2_with (fail)
                              refine wp_region_ext (by kernel_rfl) (by kernel_rfl) ?_
                              repeat (first | fail | go_big_quiet_step ((go_at_call 58; exact ext_calls_same (HLS.out _))))
                              refine wpQuiet_nil ?_
                              rintro w6 ⟨⟨_, hbx⟩, rfl⟩
                              have HR6 : Hid (RowI w6 b n z5) := Lib.hid (HR5.out.below hbx)
                              have HK6 := Lib.hid (HK5.out.trans (Kw.ofBelow hbx))
                              clear hbx rbw rap rfp rqp raq rfq rqq HLS
                              clear hpq HXp HXq uj0 uj1 ujp0 ujp1 ujpn
                              go_wp2_with (fail)
                              go_roundw
                              case rel => exact ⟨i1, k + 1, z5, by omega, by omega, by omega, rfl, by first | rfl | (push_cast; rfl) | go_num, HS5.out, HR6.out, HP5.out, HK6.out⟩
                              case measure => simp [intOf]; omega
                          · have hl5 : ¬ (j5 : Int) < (m : Int) := by omega
                            go_wp2_with (fail)
                            go_roundw
                            case rel => exact ⟨i1, k + 1, z5, by omega, by omega, by omega, rfl, by first | rfl | (push_cast; rfl) | go_num, HS5.out, HR5.out, HP5.out, HK5.out⟩
                            case measure => simp [intOf]; omega
                      · go_wp2_with (fail)
                        go_roundw
                        case rel => exact ⟨i1, k + 1, z4, by omega, by omega, by omega, rfl, by first | rfl | (push_cast; rfl) | go_num, HS4.out, HR9.out, HP4.out, HK9.out⟩
                        case measure => simp [intOf]; omega
                  · have hl1 : ¬ (1 : Int) ≤ (j4 : Int) := by omega
                    have HS4 : Hid (Srt z4 a i1) := Lib.hid (by
                      have ha0 : j4 = a := by omega
                      have := HI4.out
                      rw [ha0] at this
                      have h := this.done0
                      rwa [show i1 - 1 + 1 = i1 by omega] at h)
                    by_cases hmi : (2 : Int) ≤ (m : Int) - (i1 : Int)
                    · go_wp2_with (fail)
                      go_loopw [10] (fun vj wr => ∃ (j : Nat) (z : Nat → Int), i1 + 1 ≤ j ∧ j ≤ m ∧ vj = .int .i64 j ∧ Srt z a i1 ∧ RowI wr b n z ∧ Sw a m z0 z ∧ Kw (fun x => x = b) w wr) (fun j _ => n - (intOf j).toNat)
                      case atStart => exact ⟨i1 + 1, z4, Nat.le_refl _, by omega, by first | rfl | (push_cast; rfl) | go_num, HS4.out, HR4.out, HP4.out, HK4.out⟩
                      case round =>
                        obtain ⟨j5, z5, hj5, hjm5, rfl, hs, hr, hp, hk⟩ := hrel
                        have HS5 := Lib.hid hs
                        have HR5 := Lib.hid hr
                        have HP5 := Lib.hid hp
                        have HK5 := Lib.hid hk
                        clear hs hr hp hk
                        by_cases hlt5 : j5 < m
                        · have hl5 : (j5 : Int) < (m : Int) := by omega
                          have uj0 : (0 : Int) ≤ (j5 : Int) := by omega
                          have uj1 : (j5 : Int) < (n : Int) := by omega
                          have ujp0 : (0 : Int) ≤ (j5 : Int) - 1 := by omega
                          have ujp1 : (j5 : Int) - 1 < (n : Int) := by omega
                          have ujpn : ((j5 : Int) - 1).toNat = j5 - 1 := by omega
                          obtain ⟨xp, hxp⟩ : ∃ x, z5 (j5) = x := ⟨_, rfl⟩
                          have HXp := Lib.hid hxp
                          clear hxp
                          obtain ⟨xq, hxq⟩ : ∃ x, z5 (j5 - 1) = x := ⟨_, rfl⟩
                          have HXq := Lib.hid hxq
                          clear hxq
                          by_cases hpq : xp < xq
                          · obtain ⟨rap, rfp⟩ := HR5.out.2 (j5) (by omega)
                            rw [HXp.out] at rap
                            have rqp := ext_cell rap
                            obtain ⟨raq, rfq⟩ := HR5.out.2 (j5 - 1) (by omega)
                            rw [HXq.out] at raq
                            have rqq := ext_cell raq
                            have rbw := HR5.out.1
                            have hd : decide (xp < xq) = true := decide_eq_true hpq
                            have HLS : Hid (∀ w, Calls Try.prog 58 #[.int .u64 xp, .int .u64 xq] w fun e w' => e = .returned (.bool true) ∧ w = w') := Lib.hid (fun w => by have h := HL.out xp xq w; rwa [hd] at h)
                            clear hd
                            go_wp2_with (fail)
                            refine wp_region_ext (by kernel_rfl) (by kernel_rfl) ?_
                            repeat (first | fail | go_big_quiet_step ((go_at_call 58; exact ext_calls_same (HLS.out _))))
                            refine wpQuiet_nil ?_
                            rintro w6 ⟨⟨_, hbx⟩, rfl⟩
                            have HR6 : Hid (RowI w6 b n z5) := Lib.hid (HR5.out.below hbx)
                            have HK6 := Lib.hid (HK5.out.trans (Kw.ofBelow hbx))
                            clear hbx rbw rap rfp rqp raq rfq rqq HLS
                            clear hpq HXp HXq
                            obtain ⟨sa0, sf0⟩ := HR6.out.2 (j5) (by omega)
                            obtain ⟨sa1, sf1⟩ := HR6.out.2 (j5 - 1) (by omega)
                            have sbw := HR6.out.1
                            obtain ⟨sx, hsx⟩ : ∃ x, z5 (j5) = x := ⟨_, rfl⟩
                            obtain ⟨sy, hsy⟩ : ∃ y, z5 (j5 - 1) = y := ⟨_, rfl⟩
                            rw [hsx] at sa0
                            rw [hsy] at sa1
                            have HSX := Lib.hid hsx
                            have HSY := Lib.hid hsy
                            clear hsx hsy
                            go_wp2_with (fail)
                            go_region
                            have HR7 : Hid (RowI (((w6.setCell ⟨b, j5, none⟩ (.int .u64 sy)).setCell ⟨b, j5 - 1, none⟩ (.int .u64 sx)).drew) b n (sw2 z5 (j5) (j5 - 1))) := Lib.hid (by
                              have h := HR6.out.sw2 (i := j5) (j := j5 - 1) (by omega) (by omega)
                              rw [HSX.out, HSY.out] at h
                              exact h)
                            have HK7 : Hid (Kw (fun x => x = b) w (((w6.setCell ⟨b, j5, none⟩ (.int .u64 sy)).setCell ⟨b, j5 - 1, none⟩ (.int .u64 sx)).drew)) := Lib.hid (((HK6.out.setCell (p := ⟨b, j5, none⟩) rfl _).setCell (p := ⟨b, j5 - 1, none⟩) rfl _).drew)
                            have HP7 : Hid (Sw a m z0 (sw2 z5 (j5) (j5 - 1))) := Lib.hid (.step (j5) (j5 - 1) (by omega) (by omega) HP5.out)
                            clear sa0 sf0 sa1 sf1 sbw
                            generalize (((w6.setCell ⟨b, j5, none⟩ (.int .u64 sy)).setCell ⟨b, j5 - 1, none⟩ (.int .u64 sx)).drew) = w7 at *
                            have HS7 : Hid (Srt (sw2 z5 j5 (j5 - 1)) a i1) := Lib.hid (fun p q h0 h1 h2 => by
                              rw [sw2_other z5 (by omega) (by omega), sw2_other z5 (by omega) (by omega)]
                              exact HS5.out p q h0 h1 h2)
                            clear uj0 uj1 ujp0 ujp1 ujpn
                            go_wp2_with (fail)
                            go_roundw
                            case rel => exact ⟨j5 + 1, _, by omega, by omega, by first | rfl | (push_cast; rfl) | go_num, HS7.out, HR7.out, HP7.out, HK7.out⟩
                            case measure => simp [intOf]; omega
                          · obtain ⟨rap, rfp⟩ := HR5.out.2 (j5) (by omega)
                            rw [HXp.out] at rap
                            have rqp := ext_cell rap
                            obtain ⟨raq, rfq⟩ := HR5.out.2 (j5 - 1) (by omega)
                            rw [HXq.out] at raq
                            have rqq := ext_cell raq
                            have rbw := HR5.out.1
                            have hd : decide (xp < xq) = false := decide_eq_false hpq
                            have HLS : Hid (∀ w, Calls Try.prog 58 #[.int .u64 xp, .int .u64 xq] w fun e w' => e = .returned (.bool false) ∧ w = w') := Lib.hid (fun w => by have h := HL.out xp xq w; rwa [hd] at h)
                            clear hd
                            go_wp2_with (fail)
                            refine wp_region_ext (by kernel_rfl) (by kernel_rfl) ?_
                            repeat (first | fail | go_big_quiet_step ((go_at_call 58; exact ext_calls_same (HLS.out _))))
                            refine wpQuiet_nil ?_
                            rintro w6 ⟨⟨_, hbx⟩, rfl⟩
                            have HR6 : Hid (RowI w6 b n z5) := Lib.hid (HR5.out.below hbx)
                            have HK6 := Lib.hid (HK5.out.trans (Kw.ofBelow hbx))
                            clear hbx rbw rap rfp rqp raq rfq rqq HLS
                            clear hpq HXp HXq uj0 uj1 ujp0 ujp1 ujpn
                            go_wp2_with (fail)
                            go_roundw
                            case rel => exact ⟨i1, k + 1, z5, by omega, by omega, by omega, rfl, by first | rfl | (push_cast; rfl) | go_num, HS5.out, HR6.out, HP5.out, HK6.out⟩
                            case measure => simp [intOf]; omega
                        · have hl5 : ¬ (j5 : Int) < (m : Int) := by omega
                          go_wp2_with (fail)
                          go_roundw
                          case rel => exact ⟨i1, k + 1, z5, by omega, by omega, by omega, rfl, by first | rfl | (push_cast; rfl) | go_num, HS5.out, HR5.out, HP5.out, HK5.out⟩
                          case measure => simp [intOf]; omega
                    · go_wp2_with (fail)
                      go_roundw
                      case rel => exact ⟨i1, k + 1, z4, by omega, by omega, by omega, rfl, by first | rfl | (push_cast; rfl) | go_num, HS4.out, HR4.out, HP4.out, HK4.out⟩
                      case measure => simp [intOf]; omega
              · have HS8 : Hid (Srt (sw2 z i1 (i1 - 1)) a i1) := Lib.hid (Srt.one _ _ _ (by omega))
                by_cases hmi : (2 : Int) ≤ (m : Int) - (i1 : Int)
                · go_wp2_with (fail)
                  go_loopw [10] (fun vj wr => ∃ (j : Nat) (z : Nat → Int), i1 + 1 ≤ j ∧ j ≤ m ∧ vj = .int .i64 j ∧ Srt z a i1 ∧ RowI wr b n z ∧ Sw a m z0 z ∧ Kw (fun x => x = b) w wr) (fun j _ => n - (intOf j).toNat)
                  case atStart => exact ⟨i1 + 1, sw2 z i1 (i1 - 1), Nat.le_refl _, by omega, by first | rfl | (push_cast; rfl) | go_num, HS8.out, HR8.out, HP8.out, HK8.out⟩
                  case round =>
                    obtain ⟨j5, z5, hj5, hjm5, rfl, hs, hr, hp, hk⟩ := hrel
                    have HS5 := Lib.hid hs
                    have HR5 := Lib.hid hr
                    have HP5 := Lib.hid hp
                    have HK5 := Lib.hid hk
                    clear hs hr hp hk
                    by_cases hlt5 : j5 < m
                    · have hl5 : (j5 : Int) < (m : Int) := by omega
                      have uj0 : (0 : Int) ≤ (j5 : Int) := by omega
                      have uj1 : (j5 : Int) < (n : Int) := by omega
                      have ujp0 : (0 : Int) ≤ (j5 : Int) - 1 := by omega
                      have ujp1 : (j5 : Int) - 1 < (n : Int) := by omega
                      have ujpn : ((j5 : Int) - 1).toNat = j5 - 1 := by omega
                      obtain ⟨xp, hxp⟩ : ∃ x, z5 (j5) = x := ⟨_, rfl⟩
                      have HXp := Lib.hid hxp
                      clear hxp
                      obtain ⟨xq, hxq⟩ : ∃ x, z5 (j5 - 1) = x := ⟨_, rfl⟩
                      have HXq := Lib.hid hxq
                      clear hxq
                      by_cases hpq : xp < xq
                      · obtain ⟨rap, rfp⟩ := HR5.out.2 (j5) (by omega)
                        rw [HXp.out] at rap
                        have rqp := ext_cell rap
                        obtain ⟨raq, rfq⟩ := HR5.out.2 (j5 - 1) (by omega)
                        rw [HXq.out] at raq
                        have rqq := ext_cell raq
                        have rbw := HR5.out.1
                        have hd : decide (xp < xq) = true := decide_eq_true hpq
                        have HLS : Hid (∀ w, Calls Try.prog 58 #[.int .u64 xp, .int .u64 xq] w fun e w' => e = .returned (.bool true) ∧ w = w') := Lib.hid (fun w => by have h := HL.out xp xq w; rwa [hd] at h)
                        clear hd
                        go_wp2_with (fail)
                        refine wp_region_ext (by kernel_rfl) (by kernel_rfl) ?_
                        repeat (first | fail | go_big_quiet_step ((go_at_call 58; exact ext_calls_same (HLS.out _))))
                        refine wpQuiet_nil ?_
                        rintro w6 ⟨⟨_, hbx⟩, rfl⟩
                        have HR6 : Hid (RowI w6 b n z5) := Lib.hid (HR5.out.below hbx)
                        have HK6 := Lib.hid (HK5.out.trans (Kw.ofBelow hbx))
                        clear hbx rbw rap rfp rqp raq rfq rqq HLS
                        clear hpq HXp HXq
                        obtain ⟨sa0, sf0⟩ := HR6.out.2 (j5) (by omega)
                        obtain ⟨sa1, sf1⟩ := HR6.out.2 (j5 - 1) (by omega)
                        have sbw := HR6.out.1
                        obtain ⟨sx, hsx⟩ : ∃ x, z5 (j5) = x := ⟨_, rfl⟩
                        obtain ⟨sy, hsy⟩ : ∃ y, z5 (j5 - 1) = y := ⟨_, rfl⟩
                        rw [hsx] at sa0
                        rw [hsy] at sa1
                        have HSX := Lib.hid hsx
                        have HSY := Lib.hid hsy
                        clear hsx hsy
                        go_wp2_with (fail)
                        go_region
                        have HR7 : Hid (RowI (((w6.setCell ⟨b, j5, none⟩ (.int .u64 sy)).setCell ⟨b, j5 - 1, none⟩ (.int .u64 sx)).drew) b n (sw2 z5 (j5) (j5 - 1))) := Lib.hid (by
                          have h := HR6.out.sw2 (i := j5) (j := j5 - 1) (by omega) (by omega)
                          rw [HSX.out, HSY.out] at h
                          exact h)
                        have HK7 : Hid (Kw (fun x => x = b) w (((w6.setCell ⟨b, j5, none⟩ (.int .u64 sy)).setCell ⟨b, j5 - 1, none⟩ (.int .u64 sx)).drew)) := Lib.hid (((HK6.out.setCell (p := ⟨b, j5, none⟩) rfl _).setCell (p := ⟨b, j5 - 1, none⟩) rfl _).drew)
                        have HP7 : Hid (Sw a m z0 (sw2 z5 (j5) (j5 - 1))) := Lib.hid (.step (j5) (j5 - 1) (by omega) (by omega) HP5.out)
                        clear sa0 sf0 sa1 sf1 sbw
                        generalize (((w6.setCell ⟨b, j5, none⟩ (.int .u64 sy)).setCell ⟨b, j5 - 1, none⟩ (.int .u64 sx)).drew) = w7 at *
                        have HS7 : Hid (Srt (sw2 z5 j5 (j5 - 1)) a i1) := Lib.hid (fun p q h0 h1 h2 => by
                          rw [sw2_other z5 (by omega) (by omega), sw2_other z5 (by omega) (by omega)]
                          exact HS5.out p q h0 h1 h2)
                        clear uj0 uj1 ujp0 ujp1 ujpn
                        go_wp2_with (fail)
                        go_roundw
                        case rel => exact ⟨j5 + 1, _, by omega, by omega, by first | rfl | (push_cast; rfl) | go_num, HS7.out, HR7.out, HP7.out, HK7.out⟩
                        case measure => simp [intOf]; omega
                      · obtain ⟨rap, rfp⟩ := HR5.out.2 (j5) (by omega)
                        rw [HXp.out] at rap
                        have rqp := ext_cell rap
                        obtain ⟨raq, rfq⟩ := HR5.out.2 (j5 - 1) (by omega)
                        rw [HXq.out] at raq
                        have rqq := ext_cell raq
                        have rbw := HR5.out.1
                        have hd : decide (xp < xq) = false := decide_eq_false hpq
                        have HLS : Hid (∀ w, Calls Try.prog 58 #[.int .u64 xp, .int .u64 xq] w fun e w' => e = .returned (.bool false) ∧ w = w') := Lib.hid (fun w => by have h := HL.out xp xq w; rwa [hd] at h)
                        clear hd
                        go_wp2_with (fail)
                        refine wp_region_ext (by kernel_rfl) (by kernel_rfl) ?_
                        repeat (first | fail | go_big_quiet_step ((go_at_call 58; exact ext_calls_same (HLS.out _))))
                        refine wpQuiet_nil ?_
                        rintro w6 ⟨⟨_, hbx⟩, rfl⟩
                        have HR6 : Hid (RowI w6 b n z5) := Lib.hid (HR5.out.below hbx)
                        have HK6 := Lib.hid (HK5.out.trans (Kw.ofBelow hbx))
                        clear hbx rbw rap rfp rqp raq rfq rqq HLS
                        clear hpq HXp HXq uj0 uj1 ujp0 ujp1 ujpn
                        go_wp2_with (fail)
                        go_roundw
                        case rel => exact ⟨i1, k + 1, z5, by omega, by omega, by omega, rfl, by first | rfl | (push_cast; rfl) | go_num, HS5.out, HR6.out, HP5.out, HK6.out⟩
                        case measure => simp [intOf]; omega
                    · have hl5 : ¬ (j5 : Int) < (m : Int) := by omega
                      go_wp2_with (fail)
                      go_roundw
                      case rel => exact ⟨i1, k + 1, z5, by omega, by omega, by omega, rfl, by first | rfl | (push_cast; rfl) | go_num, HS5.out, HR5.out, HP5.out, HK5.out⟩
                      case measure => simp [intOf]; omega
                · go_wp2_with (fail)
                  go_roundw
                  case rel => exact ⟨i1, k + 1, _, by omega, by omega, by omega, rfl, by first | rfl | (push_cast; rfl) | go_num, HS8.out, HR8.out, HP8.out, HK8.out⟩
                  case measure => simp [intOf]; omega
          · have HV : Hid (Srt z a (i1 + 1)) := Lib.hid (fun p q h0 h1 h2 => by
              by_cases hq : q = i1
              · subst hq
                have h3 := HXp.out
                have h4 := HXq.out
                by_cases hp : p = q - 1
                · rw [hp, h3, h4]; omega
                · have := HSI.out p (q - 1) h0 (by omega) (by omega)
                  omega
              · exact HSI.out p q h0 h1 (by omega))
            obtain ⟨rap, rfp⟩ := HRI.out.2 (i1) (by omega)
            rw [HXp.out] at rap
            have rqp := ext_cell rap
            obtain ⟨raq, rfq⟩ := HRI.out.2 (i1 - 1) (by omega)
            rw [HXq.out] at raq
            have rqq := ext_cell raq
            have rbw := HRI.out.1
            have hd : decide (xp < xq) = false := decide_eq_false hpq
            have HLS : Hid (∀ w, Calls Try.prog 58 #[.int .u64 xp, .int .u64 xq] w fun e w' => e = .returned (.bool false) ∧ w = w') := Lib.hid (fun w => by have h := HL.out xp xq w; rwa [hd] at h)
            clear hd
            go_wp2_with (fail)
            refine wp_region_ext (by kernel_rfl) (by kernel_rfl) ?_
            repeat (first | rw [G0.out] | rw [G1.out] | go_big_quiet_step ((go_at_call 58; exact ext_calls_same (HLS.out _))))
            refine wpQuiet_nil ?_
            rintro w2 ⟨⟨_, hbx⟩, rfl⟩
            have HR2 : Hid (RowI w2 b n z) := Lib.hid (HRI.out.below hbx)
            have HK2 := Lib.hid (HKI.out.trans (Kw.ofBelow hbx))
            clear hbx rbw rap rfp rqp raq rfq rqq HLS
            clear hpq HXp HXq ui0 ui1 uip0 uip1 uipn G0 G1
            go_wp2_with (fail)
            go_roundw
            case rel => exact ⟨i1 + 1, by omega, by omega, by first | rfl | (push_cast; rfl) | go_num, HV.out, HR2.out, HK2.out⟩
            case measure => simp [intOf]; omega
        · have G0 : Hid (decide ((i1 : Int) < (m : Int)) = false) := Lib.hid (decide_eq_false (by omega))
          have G1 : Hid (decide (i1 < m) = false) := Lib.hid (decide_eq_false hi)
          have hie : i1 = m := by omega
          subst hie
          have rbw := HRI.out.1
          go_wp2_with (fail)
          refine wp_region_ext (by kernel_rfl) (by kernel_rfl) ?_
          repeat (first | rw [G0.out] | rw [G1.out] | go_big_quiet_step (fail))
          refine wpQuiet_nil ?_
          rintro w2 ⟨⟨_, hbx⟩, rfl⟩
          have HR2 : Hid (RowI w2 b n z) := Lib.hid (HRI.out.below hbx)
          have HK2 := Lib.hid (HKI.out.trans (Kw.ofBelow hbx))
          clear hbx rbw
          clear G0 G1
          go_wp2_with (fail)
          go_ret
          exact ⟨true, z, rfl, HR2.out, HP.out, fun _ => HSI.out, HK2.out⟩
    · have hki : ¬ (k : Int) < 5 := by omega
      go_wp2_with (fail)
      go_ret
      exact ⟨false, z, rfl, HR.out, HP.out, (fun h => by cases h), HK.out⟩
end Go.Proofs.Ytmalcekbhnkfgaa
