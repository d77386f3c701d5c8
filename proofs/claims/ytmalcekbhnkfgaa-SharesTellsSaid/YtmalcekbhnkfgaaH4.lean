/- Contract of siftDown. Conditions: as each theorem states them. -/
import Derived.Test.YtmalcekbhnkfgaaH2
namespace Go.Proofs.Ytmalcekbhnkfgaa
open Go.RowKit Go.Maps
set_option linter.unusedVariables false
set_option linter.unusedSimpArgs false

/-- The nodes from lo on are not below their children; the heap stands from a on, and has m nodes. -/
def Heap (z : Nat → Int) (a lo m : Nat) : Prop := ∀ k, lo ≤ k → ∀ c, (c = 2 * k + 1 ∨ c = 2 * k + 2) → c < m → z (a + c) ≤ z (a + k)
/-- The like, but for the node r, which may be too low. -/
def Sift (z : Nat → Int) (a lo m r : Nat) : Prop := (∀ k, lo ≤ k → k ≠ r → ∀ c, (c = 2 * k + 1 ∨ c = 2 * k + 2) → c < m → z (a + c) ≤ z (a + k)) ∧
  ∀ p, lo ≤ p → (r = 2 * p + 1 ∨ r = 2 * p + 2) → ∀ c, (c = 2 * r + 1 ∨ c = 2 * r + 2) → c < m → z (a + c) ≤ z (a + p)
theorem Heap.sift {z : Nat → Int} {a lo m : Nat} (h : Heap z a (lo + 1) m) : Sift z a lo m lo :=
  ⟨fun k hk hr c hc hm => h k (by omega) c hc hm, fun p hp hr => by omega⟩
theorem Sift.done {z : Nat → Int} {a lo m r : Nat} (h : Sift z a lo m r) (hr : ∀ c, (c = 2 * r + 1 ∨ c = 2 * r + 2) → c < m → z (a + c) ≤ z (a + r)) : Heap z a lo m := fun k hk c hc hm => by
  by_cases hkr : k = r
  · subst hkr
    exact hr c hc hm
  · exact h.1 k hk hkr c hc hm
theorem Sift.step {z : Nat → Int} {a lo m r c : Nat} (h : Sift z a lo m r) (hlo : lo ≤ r) (hc : c = 2 * r + 1 ∨ c = 2 * r + 2) (hcm : c < m) (hlt : z (a + r) < z (a + c)) (hmax : ∀ d, (d = 2 * r + 1 ∨ d = 2 * r + 2) → d < m → z (a + d) ≤ z (a + c)) : Sift (sw2 z (a + r) (a + c)) a lo m c := by
  have e1 : sw2 z (a + r) (a + c) (a + r) = z (a + c) := sw2_left z _ _
  have e2 : sw2 z (a + r) (a + c) (a + c) = z (a + r) := sw2_right z _ _
  have e3 : ∀ k, k ≠ r → k ≠ c → sw2 z (a + r) (a + c) (a + k) = z (a + k) := fun k h1 h2 => sw2_other z (by omega) (by omega)
  constructor
  · intro k hk hkc d hd hdm
    by_cases hkr : k = r
    · subst hkr
      rw [e1]
      by_cases hdc : d = c
      · subst hdc
        rw [e2]
        omega
      · rw [e3 d (by omega) hdc]
        exact hmax d hd hdm
    · rw [e3 k hkr hkc]
      by_cases hdr : d = r
      · subst hdr
        rw [e1]
        exact h.2 k hk hd c hc hcm
      · by_cases hdc : d = c
        · omega
        · rw [e3 d hdr hdc]
          exact h.1 k hk hkr d hd hdm
  · intro p hp hcp d hd hdm
    have hpr : p = r := by omega
    subst hpr
    rw [e1, e3 d (by omega) (by omega)]
    exact h.1 c (by omega) (by omega) d hd hdm
theorem Heap.max {z : Nat → Int} {a m : Nat} (h : Heap z a 0 m) : ∀ k, k < m → z (a + k) ≤ z a := by
  intro k
  induction k using Nat.strongRecOn with
  | ind k ih =>
    intro hk
    by_cases h0 : k = 0
    · subst h0; exact Int.le_refl _
    · have h1 := h ((k - 1) / 2) (Nat.zero_le _) k (by omega) hk
      have h2 := ih ((k - 1) / 2) (by omega) (by omega)
      omega
set_option maxRecDepth 100000 in
set_option maxHeartbeats 8000000 in
theorem sift_part (b n cap a lo m : Nat) (z0 : Nat → Int) (w : World) (hz : RowI w b n z0) (hn : n ≤ 1000000) (hnc : n ≤ cap) (hmn : a + m ≤ n) (hlo : lo < m) (hh : Heap z0 a (lo + 1) m) :
    Calls Try.prog 63 #[.slice (some ⟨b, 0, none⟩) n cap, .int .i64 lo, .int .i64 m, .int .i64 a] w fun e w' => e = .returned (.tuple #[]) ∧ (∃ z, RowI w' b n z ∧ Sw a (a + m) z0 z ∧ Heap z a lo m) ∧ Kw (fun x => x = b) w w' := by
  have HZ := Lib.hid hz
  have HL := Lib.hid less_u
  have HH := Lib.hid hh.sift
  clear hz hh
  go_enter Try.func63, Try.ntmps63
  go_wp2_with (fail)
  go_loopw [8] (fun vr wr => ∃ (r : Nat) (z : Nat → Int), lo ≤ r ∧ r < m ∧ vr = .int .i64 r ∧ RowI wr b n z ∧ Sw a (a + m) z0 z ∧ Sift z a lo m r ∧ Kw (fun x => x = b) w wr) (fun r _ => m - (intOf r).toNat)
  case atStart => exact ⟨lo, z0, Nat.le_refl _, hlo, rfl, HZ.out, .refl, HH.out, Kw.refl _ _⟩
  case round =>
    obtain ⟨r, z, hlr, hrm, rfl, hr, hp, hs, hk⟩ := hrel
    have HR := Lib.hid hr
    have HP := Lib.hid hp
    have HS := Lib.hid hs
    have HK := Lib.hid hk
    clear hr hp hs hk
    obtain ⟨c1, hc1⟩ : ∃ c1 : Nat, c1 = 2 * r + 1 := ⟨_, rfl⟩
    have hc1i : (2 : Int) * (r : Int) + 1 = (c1 : Int) := by omega
    by_cases hcm : c1 < m
    · have h0 : ¬ (m : Int) ≤ (c1 : Int) := by omega
      have h1 : (0 : Int) ≤ (a : Int) + (c1 : Int) := by omega
      have h2 : (a : Int) + (c1 : Int) < (n : Int) := by omega
      have h3 : ((a : Int) + (c1 : Int)).toNat = a + c1 := by omega
      have h4 : (0 : Int) ≤ (a : Int) + (r : Int) := by omega
      have h5 : (a : Int) + (r : Int) < (n : Int) := by omega
      have h6 : ((a : Int) + (r : Int)).toNat = a + r := by omega
      have HC1 := Lib.hid hc1
      clear hc1
      by_cases hcm2 : c1 + 1 < m
      · have G0 : Hid (decide ((c1 : Int) + 1 < (m : Int)) = true) := Lib.hid (decide_eq_true (by omega))
        have h7 : (0 : Int) ≤ (a : Int) + (c1 : Int) + 1 := by omega
        have h8 : (a : Int) + (c1 : Int) + 1 < (n : Int) := by omega
        have h9 : ((a : Int) + (c1 : Int) + 1).toNat = a + c1 + 1 := by omega
        obtain ⟨xp, hxp⟩ : ∃ x, z (a + c1) = x := ⟨_, rfl⟩
        have HXp := Lib.hid hxp
        clear hxp
        obtain ⟨xq, hxq⟩ : ∃ x, z (a + c1 + 1) = x := ⟨_, rfl⟩
        have HXq := Lib.hid hxq
        clear hxq
        by_cases hpq : xp < xq
        · have HMX : Hid (∀ d, (d = 2 * r + 1 ∨ d = 2 * r + 2) → d < m → z (a + d) ≤ z (a + (c1 + 1))) := Lib.hid (fun d hd hdm => by
            have e1 := HC1.out
            have e2 := HXp.out
            have e3 := HXq.out
            rcases hd with rfl | rfl
            · rw [← e1, e2, show a + (c1 + 1) = a + c1 + 1 by omega, e3]; omega
            · rw [show 2 * r + 2 = c1 + 1 by omega]; exact Int.le_refl _)
          obtain ⟨rap, rfp⟩ := HR.out.2 (a + c1) (by omega)
          rw [HXp.out] at rap
          have rqp := ext_cell rap
          obtain ⟨raq, rfq⟩ := HR.out.2 (a + c1 + 1) (by omega)
          rw [HXq.out] at raq
          have rqq := ext_cell raq
          have rbw := HR.out.1
          have hd : decide (xp < xq) = true := decide_eq_true hpq
          have HLS : Hid (∀ w, Calls Try.prog 58 #[.int .u64 xp, .int .u64 xq] w fun e w' => e = .returned (.bool true) ∧ w = w') := Lib.hid (fun w => by have h := HL.out xp xq w; rwa [hd] at h)
          clear hd
          go_wp2_with (fail)
          refine wp_region_ext (by kernel_rfl) (by kernel_rfl) ?_
          repeat (first | rw [G0.out] | go_big_quiet_step ((go_at_call 58; exact ext_calls_same (HLS.out _))))
          refine wpQuiet_nil ?_
          rintro w2 ⟨⟨_, hbx⟩, rfl⟩
          have HR2 : Hid (RowI w2 b n z) := Lib.hid (HR.out.below hbx)
          have HK2 := Lib.hid (HK.out.trans (Kw.ofBelow hbx))
          clear hbx rbw rap rfp rqp raq rfq rqq HLS
          clear hpq h1 h2 h3 h7 h8 h9 G0
          obtain ⟨c2, hc2⟩ : ∃ c2 : Nat, c1 + 1 = c2 := ⟨_, rfl⟩
          rw [hc2] at HMX hcm2
          have HCR : Hid (c2 = 2 * r + 1 ∨ c2 = 2 * r + 2) := Lib.hid (by have := HC1.out; omega)
          have hc2i : (c1 : Int) + 1 = (c2 : Int) := by omega
          clear hc2
          have q1 : (0 : Int) ≤ (a : Int) + (c2 : Int) := by omega
          have q2 : (a : Int) + (c2 : Int) < (n : Int) := by omega
          have q3 : ((a : Int) + (c2 : Int)).toNat = a + c2 := by omega
          obtain ⟨xr, hxr⟩ : ∃ x, z (a + r) = x := ⟨_, rfl⟩
          have HXr := Lib.hid hxr
          clear hxr
          obtain ⟨xc, hxc⟩ : ∃ x, z (a + c2) = x := ⟨_, rfl⟩
          have HXc := Lib.hid hxc
          clear hxc
          by_cases hrc : xr < xc
          · have HRC := Lib.hid hrc
            obtain ⟨rar, rfr⟩ := HR2.out.2 (a + r) (by omega)
            rw [HXr.out] at rar
            have rqr := ext_cell rar
            obtain ⟨rac, rfc⟩ := HR2.out.2 (a + c2) (by omega)
            rw [HXc.out] at rac
            have rqc := ext_cell rac
            have rbw := HR2.out.1
            have hd : decide (xr < xc) = true := decide_eq_true hrc
            have HLS : Hid (∀ w, Calls Try.prog 58 #[.int .u64 xr, .int .u64 xc] w fun e w' => e = .returned (.bool true) ∧ w = w') := Lib.hid (fun w => by have h := HL.out xr xc w; rwa [hd] at h)
            clear hd
            go_wp2_with (fail)
            refine wp_region_ext (by kernel_rfl) (by kernel_rfl) ?_
            repeat (first | fail | go_big_quiet_step ((go_at_call 58; exact ext_calls_same (HLS.out _))))
            refine wpQuiet_nil ?_
            rintro w5 ⟨⟨_, hbx⟩, rfl⟩
            have HR5 : Hid (RowI w5 b n z) := Lib.hid (HR2.out.below hbx)
            have HK5 := Lib.hid (HK2.out.trans (Kw.ofBelow hbx))
            clear hbx rbw rar rfr rqr rac rfc rqc HLS
            clear hrc
            obtain ⟨sa0, sf0⟩ := HR5.out.2 (a + r) (by omega)
            obtain ⟨sa1, sf1⟩ := HR5.out.2 (a + c2) (by omega)
            have sbw := HR5.out.1
            obtain ⟨sx, hsx⟩ : ∃ x, z (a + r) = x := ⟨_, rfl⟩
            obtain ⟨sy, hsy⟩ : ∃ y, z (a + c2) = y := ⟨_, rfl⟩
            rw [hsx] at sa0
            rw [hsy] at sa1
            have HSX := Lib.hid hsx
            have HSY := Lib.hid hsy
            clear hsx hsy
            go_wp2_with (fail)
            go_region
            have HR6 : Hid (RowI (((w5.setCell ⟨b, a + r, none⟩ (.int .u64 sy)).setCell ⟨b, a + c2, none⟩ (.int .u64 sx)).drew) b n (sw2 z (a + r) (a + c2))) := Lib.hid (by
              have h := HR5.out.sw2 (i := a + r) (j := a + c2) (by omega) (by omega)
              rw [HSX.out, HSY.out] at h
              exact h)
            have HK6 : Hid (Kw (fun x => x = b) w (((w5.setCell ⟨b, a + r, none⟩ (.int .u64 sy)).setCell ⟨b, a + c2, none⟩ (.int .u64 sx)).drew)) := Lib.hid (((HK5.out.setCell (p := ⟨b, a + r, none⟩) rfl _).setCell (p := ⟨b, a + c2, none⟩) rfl _).drew)
            have HP6 : Hid (Sw a (a + m) z0 (sw2 z (a + r) (a + c2))) := Lib.hid (.step (a + r) (a + c2) (by omega) (by omega) HP.out)
            clear sa0 sf0 sa1 sf1 sbw
            generalize (((w5.setCell ⟨b, a + r, none⟩ (.int .u64 sy)).setCell ⟨b, a + c2, none⟩ (.int .u64 sx)).drew) = w6 at *
            have HS6 : Hid (Sift (sw2 z (a + r) (a + c2)) a lo m c2) := Lib.hid (HS.out.step hlr HCR.out (by omega) (by rw [HXr.out, HXc.out]; exact HRC.out) HMX.out)
            have hcl : lo ≤ c2 := by have := HCR.out; omega
            have hrc' : r < c2 := by have := HCR.out; omega
            clear q1 q2 q3
            go_wp2_with (fail)
            go_roundw
            case rel => exact ⟨c2, _, hcl, by omega, by first | rfl | (push_cast; rfl) | go_num, HR6.out, HP6.out, HS6.out, HK6.out⟩
            case measure => simp [intOf]; omega
          · have HV : Hid (Heap z a lo m) := Lib.hid (HS.out.done (fun d hd hdm => by
              have h1 := HMX.out d hd hdm
              have h2 := HXr.out
              have h3 := HXc.out
              omega))
            obtain ⟨rar, rfr⟩ := HR2.out.2 (a + r) (by omega)
            rw [HXr.out] at rar
            have rqr := ext_cell rar
            obtain ⟨rac, rfc⟩ := HR2.out.2 (a + c2) (by omega)
            rw [HXc.out] at rac
            have rqc := ext_cell rac
            have rbw := HR2.out.1
            have hd : decide (xr < xc) = false := decide_eq_false hrc
            have HLS : Hid (∀ w, Calls Try.prog 58 #[.int .u64 xr, .int .u64 xc] w fun e w' => e = .returned (.bool false) ∧ w = w') := Lib.hid (fun w => by have h := HL.out xr xc w; rwa [hd] at h)
            clear hd
            go_wp2_with (fail)
            refine wp_region_ext (by kernel_rfl) (by kernel_rfl) ?_
            repeat (first | fail | go_big_quiet_step ((go_at_call 58; exact ext_calls_same (HLS.out _))))
            refine wpQuiet_nil ?_
            rintro w5 ⟨⟨_, hbx⟩, rfl⟩
            have HR5 : Hid (RowI w5 b n z) := Lib.hid (HR2.out.below hbx)
            have HK5 := Lib.hid (HK2.out.trans (Kw.ofBelow hbx))
            clear hbx rbw rar rfr rqr rac rfc rqc HLS
            clear hrc
            go_wp2_with (fail)
            refine bodyPost_ret (results_none rfl _ _ _) rfl ?_
            exact ⟨rfl, ⟨z, HR5.out, HP.out, HV.out⟩, HK5.out⟩
        · have HMX : Hid (∀ d, (d = 2 * r + 1 ∨ d = 2 * r + 2) → d < m → z (a + d) ≤ z (a + c1)) := Lib.hid (fun d hd hdm => by
            have e1 := HC1.out
            have e2 := HXp.out
            have e3 := HXq.out
            rcases hd with rfl | rfl
            · rw [← e1]; exact Int.le_refl _
            · rw [show a + (2 * r + 2) = a + c1 + 1 by omega, e2, e3]; omega)
          obtain ⟨rap, rfp⟩ := HR.out.2 (a + c1) (by omega)
          rw [HXp.out] at rap
          have rqp := ext_cell rap
          obtain ⟨raq, rfq⟩ := HR.out.2 (a + c1 + 1) (by omega)
          rw [HXq.out] at raq
          have rqq := ext_cell raq
          have rbw := HR.out.1
          have hd : decide (xp < xq) = false := decide_eq_false hpq
          have HLS : Hid (∀ w, Calls Try.prog 58 #[.int .u64 xp, .int .u64 xq] w fun e w' => e = .returned (.bool false) ∧ w = w') := Lib.hid (fun w => by have h := HL.out xp xq w; rwa [hd] at h)
          clear hd
          go_wp2_with (fail)
          refine wp_region_ext (by kernel_rfl) (by kernel_rfl) ?_
          repeat (first | rw [G0.out] | go_big_quiet_step ((go_at_call 58; exact ext_calls_same (HLS.out _))))
          refine wpQuiet_nil ?_
          rintro w2 ⟨⟨_, hbx⟩, rfl⟩
          have HR2 : Hid (RowI w2 b n z) := Lib.hid (HR.out.below hbx)
          have HK2 := Lib.hid (HK.out.trans (Kw.ofBelow hbx))
          clear hbx rbw rap rfp rqp raq rfq rqq HLS
          clear hpq h1 h2 h3 h7 h8 h9 G0
          have HCR : Hid (c1 = 2 * r + 1 ∨ c1 = 2 * r + 2) := Lib.hid (by have := HC1.out; omega)
          have q1 : (0 : Int) ≤ (a : Int) + (c1 : Int) := by omega
          have q2 : (a : Int) + (c1 : Int) < (n : Int) := by omega
          have q3 : ((a : Int) + (c1 : Int)).toNat = a + c1 := by omega
          obtain ⟨xr, hxr⟩ : ∃ x, z (a + r) = x := ⟨_, rfl⟩
          have HXr := Lib.hid hxr
          clear hxr
          obtain ⟨xc, hxc⟩ : ∃ x, z (a + c1) = x := ⟨_, rfl⟩
          have HXc := Lib.hid hxc
          clear hxc
          by_cases hrc : xr < xc
          · have HRC := Lib.hid hrc
            obtain ⟨rar, rfr⟩ := HR2.out.2 (a + r) (by omega)
            rw [HXr.out] at rar
            have rqr := ext_cell rar
            obtain ⟨rac, rfc⟩ := HR2.out.2 (a + c1) (by omega)
            rw [HXc.out] at rac
            have rqc := ext_cell rac
            have rbw := HR2.out.1
            have hd : decide (xr < xc) = true := decide_eq_true hrc
            have HLS : Hid (∀ w, Calls Try.prog 58 #[.int .u64 xr, .int .u64 xc] w fun e w' => e = .returned (.bool true) ∧ w = w') := Lib.hid (fun w => by have h := HL.out xr xc w; rwa [hd] at h)
            clear hd
            go_wp2_with (fail)
            refine wp_region_ext (by kernel_rfl) (by kernel_rfl) ?_
            repeat (first | fail | go_big_quiet_step ((go_at_call 58; exact ext_calls_same (HLS.out _))))
            refine wpQuiet_nil ?_
            rintro w5 ⟨⟨_, hbx⟩, rfl⟩
            have HR5 : Hid (RowI w5 b n z) := Lib.hid (HR2.out.below hbx)
            have HK5 := Lib.hid (HK2.out.trans (Kw.ofBelow hbx))
            clear hbx rbw rar rfr rqr rac rfc rqc HLS
            clear hrc
            obtain ⟨sa0, sf0⟩ := HR5.out.2 (a + r) (by omega)
            obtain ⟨sa1, sf1⟩ := HR5.out.2 (a + c1) (by omega)
            have sbw := HR5.out.1
            obtain ⟨sx, hsx⟩ : ∃ x, z (a + r) = x := ⟨_, rfl⟩
            obtain ⟨sy, hsy⟩ : ∃ y, z (a + c1) = y := ⟨_, rfl⟩
            rw [hsx] at sa0
            rw [hsy] at sa1
            have HSX := Lib.hid hsx
            have HSY := Lib.hid hsy
            clear hsx hsy
            go_wp2_with (fail)
            go_region
            have HR6 : Hid (RowI (((w5.setCell ⟨b, a + r, none⟩ (.int .u64 sy)).setCell ⟨b, a + c1, none⟩ (.int .u64 sx)).drew) b n (sw2 z (a + r) (a + c1))) := Lib.hid (by
              have h := HR5.out.sw2 (i := a + r) (j := a + c1) (by omega) (by omega)
              rw [HSX.out, HSY.out] at h
              exact h)
            have HK6 : Hid (Kw (fun x => x = b) w (((w5.setCell ⟨b, a + r, none⟩ (.int .u64 sy)).setCell ⟨b, a + c1, none⟩ (.int .u64 sx)).drew)) := Lib.hid (((HK5.out.setCell (p := ⟨b, a + r, none⟩) rfl _).setCell (p := ⟨b, a + c1, none⟩) rfl _).drew)
            have HP6 : Hid (Sw a (a + m) z0 (sw2 z (a + r) (a + c1))) := Lib.hid (.step (a + r) (a + c1) (by omega) (by omega) HP.out)
            clear sa0 sf0 sa1 sf1 sbw
            generalize (((w5.setCell ⟨b, a + r, none⟩ (.int .u64 sy)).setCell ⟨b, a + c1, none⟩ (.int .u64 sx)).drew) = w6 at *
            have HS6 : Hid (Sift (sw2 z (a + r) (a + c1)) a lo m c1) := Lib.hid (HS.out.step hlr HCR.out (by omega) (by rw [HXr.out, HXc.out]; exact HRC.out) HMX.out)
            have hcl : lo ≤ c1 := by have := HCR.out; omega
            have hrc' : r < c1 := by have := HCR.out; omega
            clear q1 q2 q3
            go_wp2_with (fail)
            go_roundw
            case rel => exact ⟨c1, _, hcl, by omega, by first | rfl | (push_cast; rfl) | go_num, HR6.out, HP6.out, HS6.out, HK6.out⟩
            case measure => simp [intOf]; omega
          · have HV : Hid (Heap z a lo m) := Lib.hid (HS.out.done (fun d hd hdm => by
              have h1 := HMX.out d hd hdm
              have h2 := HXr.out
              have h3 := HXc.out
              omega))
            obtain ⟨rar, rfr⟩ := HR2.out.2 (a + r) (by omega)
            rw [HXr.out] at rar
            have rqr := ext_cell rar
            obtain ⟨rac, rfc⟩ := HR2.out.2 (a + c1) (by omega)
            rw [HXc.out] at rac
            have rqc := ext_cell rac
            have rbw := HR2.out.1
            have hd : decide (xr < xc) = false := decide_eq_false hrc
            have HLS : Hid (∀ w, Calls Try.prog 58 #[.int .u64 xr, .int .u64 xc] w fun e w' => e = .returned (.bool false) ∧ w = w') := Lib.hid (fun w => by have h := HL.out xr xc w; rwa [hd] at h)
            clear hd
            go_wp2_with (fail)
            refine wp_region_ext (by kernel_rfl) (by kernel_rfl) ?_
            repeat (first | fail | go_big_quiet_step ((go_at_call 58; exact ext_calls_same (HLS.out _))))
            refine wpQuiet_nil ?_
            rintro w5 ⟨⟨_, hbx⟩, rfl⟩
            have HR5 : Hid (RowI w5 b n z) := Lib.hid (HR2.out.below hbx)
            have HK5 := Lib.hid (HK2.out.trans (Kw.ofBelow hbx))
            clear hbx rbw rar rfr rqr rac rfc rqc HLS
            clear hrc
            go_wp2_with (fail)
            refine bodyPost_ret (results_none rfl _ _ _) rfl ?_
            exact ⟨rfl, ⟨z, HR5.out, HP.out, HV.out⟩, HK5.out⟩
      · have G0 : Hid (decide ((c1 : Int) + 1 < (m : Int)) = false) := Lib.hid (decide_eq_false (by omega))
        have HMX : Hid (∀ d, (d = 2 * r + 1 ∨ d = 2 * r + 2) → d < m → z (a + d) ≤ z (a + c1)) := Lib.hid (fun d hd hdm => by
          have e1 := HC1.out
          rcases hd with rfl | rfl
          · rw [← e1]; exact Int.le_refl _
          · omega)
        have rbw := HR.out.1
        go_wp2_with (fail)
        refine wp_region_ext (by kernel_rfl) (by kernel_rfl) ?_
        repeat (first | rw [G0.out] | go_big_quiet_step (fail))
        refine wpQuiet_nil ?_
        rintro w2 ⟨⟨_, hbx⟩, rfl⟩
        have HR2 : Hid (RowI w2 b n z) := Lib.hid (HR.out.below hbx)
        have HK2 := Lib.hid (HK.out.trans (Kw.ofBelow hbx))
        clear hbx rbw
        clear h1 h2 h3 G0
        have HCR : Hid (c1 = 2 * r + 1 ∨ c1 = 2 * r + 2) := Lib.hid (by have := HC1.out; omega)
        have q1 : (0 : Int) ≤ (a : Int) + (c1 : Int) := by omega
        have q2 : (a : Int) + (c1 : Int) < (n : Int) := by omega
        have q3 : ((a : Int) + (c1 : Int)).toNat = a + c1 := by omega
        obtain ⟨xr, hxr⟩ : ∃ x, z (a + r) = x := ⟨_, rfl⟩
        have HXr := Lib.hid hxr
        clear hxr
        obtain ⟨xc, hxc⟩ : ∃ x, z (a + c1) = x := ⟨_, rfl⟩
        have HXc := Lib.hid hxc
        clear hxc
        by_cases hrc : xr < xc
        · have HRC := Lib.hid hrc
          obtain ⟨rar, rfr⟩ := HR2.out.2 (a + r) (by omega)
          rw [HXr.out] at rar
          have rqr := ext_cell rar
          obtain ⟨rac, rfc⟩ := HR2.out.2 (a + c1) (by omega)
          rw [HXc.out] at rac
          have rqc := ext_cell rac
          have rbw := HR2.out.1
          have hd : decide (xr < xc) = true := decide_eq_true hrc
          have HLS : Hid (∀ w, Calls Try.prog 58 #[.int .u64 xr, .int .u64 xc] w fun e w' => e = .returned (.bool true) ∧ w = w') := Lib.hid (fun w => by have h := HL.out xr xc w; rwa [hd] at h)
          clear hd
          go_wp2_with (fail)
          refine wp_region_ext (by kernel_rfl) (by kernel_rfl) ?_
          repeat (first | fail | go_big_quiet_step ((go_at_call 58; exact ext_calls_same (HLS.out _))))
          refine wpQuiet_nil ?_
          rintro w5 ⟨⟨_, hbx⟩, rfl⟩
          have HR5 : Hid (RowI w5 b n z) := Lib.hid (HR2.out.below hbx)
          have HK5 := Lib.hid (HK2.out.trans (Kw.ofBelow hbx))
          clear hbx rbw rar rfr rqr rac rfc rqc HLS
          clear hrc
          obtain ⟨sa0, sf0⟩ := HR5.out.2 (a + r) (by omega)
          obtain ⟨sa1, sf1⟩ := HR5.out.2 (a + c1) (by omega)
          have sbw := HR5.out.1
          obtain ⟨sx, hsx⟩ : ∃ x, z (a + r) = x := ⟨_, rfl⟩
          obtain ⟨sy, hsy⟩ : ∃ y, z (a + c1) = y := ⟨_, rfl⟩
          rw [hsx] at sa0
          rw [hsy] at sa1
          have HSX := Lib.hid hsx
          have HSY := Lib.hid hsy
          clear hsx hsy
          go_wp2_with (fail)
          go_region
          have HR6 : Hid (RowI (((w5.setCell ⟨b, a + r, none⟩ (.int .u64 sy)).setCell ⟨b, a + c1, none⟩ (.int .u64 sx)).drew) b n (sw2 z (a + r) (a + c1))) := Lib.hid (by
            have h := HR5.out.sw2 (i := a + r) (j := a + c1) (by omega) (by omega)
            rw [HSX.out, HSY.out] at h
            exact h)
          have HK6 : Hid (Kw (fun x => x = b) w (((w5.setCell ⟨b, a + r, none⟩ (.int .u64 sy)).setCell ⟨b, a + c1, none⟩ (.int .u64 sx)).drew)) := Lib.hid (((HK5.out.setCell (p := ⟨b, a + r, none⟩) rfl _).setCell (p := ⟨b, a + c1, none⟩) rfl _).drew)
          have HP6 : Hid (Sw a (a + m) z0 (sw2 z (a + r) (a + c1))) := Lib.hid (.step (a + r) (a + c1) (by omega) (by omega) HP.out)
          clear sa0 sf0 sa1 sf1 sbw
          generalize (((w5.setCell ⟨b, a + r, none⟩ (.int .u64 sy)).setCell ⟨b, a + c1, none⟩ (.int .u64 sx)).drew) = w6 at *
          have HS6 : Hid (Sift (sw2 z (a + r) (a + c1)) a lo m c1) := Lib.hid (HS.out.step hlr HCR.out (by omega) (by rw [HXr.out, HXc.out]; exact HRC.out) HMX.out)
          have hcl : lo ≤ c1 := by have := HCR.out; omega
          have hrc' : r < c1 := by have := HCR.out; omega
          clear q1 q2 q3
          go_wp2_with (fail)
          go_roundw
          case rel => exact ⟨c1, _, hcl, by omega, by first | rfl | (push_cast; rfl) | go_num, HR6.out, HP6.out, HS6.out, HK6.out⟩
          case measure => simp [intOf]; omega
        · have HV : Hid (Heap z a lo m) := Lib.hid (HS.out.done (fun d hd hdm => by
            have h1 := HMX.out d hd hdm
            have h2 := HXr.out
            have h3 := HXc.out
            omega))
          obtain ⟨rar, rfr⟩ := HR2.out.2 (a + r) (by omega)
          rw [HXr.out] at rar
          have rqr := ext_cell rar
          obtain ⟨rac, rfc⟩ := HR2.out.2 (a + c1) (by omega)
          rw [HXc.out] at rac
          have rqc := ext_cell rac
          have rbw := HR2.out.1
          have hd : decide (xr < xc) = false := decide_eq_false hrc
          have HLS : Hid (∀ w, Calls Try.prog 58 #[.int .u64 xr, .int .u64 xc] w fun e w' => e = .returned (.bool false) ∧ w = w') := Lib.hid (fun w => by have h := HL.out xr xc w; rwa [hd] at h)
          clear hd
          go_wp2_with (fail)
          refine wp_region_ext (by kernel_rfl) (by kernel_rfl) ?_
          repeat (first | fail | go_big_quiet_step ((go_at_call 58; exact ext_calls_same (HLS.out _))))
          refine wpQuiet_nil ?_
          rintro w5 ⟨⟨_, hbx⟩, rfl⟩
          have HR5 : Hid (RowI w5 b n z) := Lib.hid (HR2.out.below hbx)
          have HK5 := Lib.hid (HK2.out.trans (Kw.ofBelow hbx))
          clear hbx rbw rar rfr rqr rac rfc rqc HLS
          clear hrc
          go_wp2_with (fail)
          refine bodyPost_ret (results_none rfl _ _ _) rfl ?_
          exact ⟨rfl, ⟨z, HR5.out, HP.out, HV.out⟩, HK5.out⟩
    · have h0 : (m : Int) ≤ (c1 : Int) := by omega
      have HV : Hid (Heap z a lo m) := Lib.hid (HS.out.done (fun c hc hcm' => by omega))
      clear hc1
      go_wp2_with (fail)
      go_end0
      exact ⟨rfl, ⟨z, HR.out, HP.out, HV.out⟩, HK.out⟩
end Go.Proofs.Ytmalcekbhnkfgaa
namespace Go.Proofs.Ytmalcekbhnkfgaa
open Go.RowKit Go.Maps
set_option linter.unusedVariables false
set_option linter.unusedSimpArgs false

/-- From j on the part of m elements is in order, and none ahead is greater. -/
def TL (z : Nat → Int) (a j m : Nat) : Prop := Srt z (a + j) (a + m) ∧ ∀ p q, a ≤ p → p < a + j → a + j ≤ q → q < a + m → z p ≤ z q
theorem TL.step {z z2 : Nat → Int} {a j m : Nat} (hj : j < m) (hh : Heap z a 0 (j + 1)) (ht : TL z a (j + 1) m) (hs : Sw a (a + j) (sw2 z a (a + j)) z2) : TL z2 a j m := by
  obtain ⟨t1, t2⟩ := ht
  have hout : ∀ q, a + j ≤ q → z2 q = sw2 z a (a + j) q := fun q hq => hs.out (.inr hq)
  have hj' : sw2 z a (a + j) (a + j) = z a := sw2_right z _ _
  have hoth : ∀ q, a + j < q → sw2 z a (a + j) q = z q := fun q hq => sw2_other z (by omega) (by omega)
  constructor
  · intro p q h0 h1 h2
    rw [hout p h0, hout q (by omega), hoth q (by omega)]
    by_cases hp : p = a + j
    · rw [hp, hj']
      exact t2 a q (Nat.le_refl _) (by omega) (by omega) h2
    · rw [hoth p (by omega)]
      exact t1 p q (by omega) h1 h2
  · have hall := hs.all (P := fun x => ∀ q, a + j ≤ q → q < a + m → x ≤ z2 q) (fun k h1 h2 q h3 h4 => by
      rw [hout q h3]
      have hk : ∃ i, i ≤ j ∧ sw2 z a (a + j) k = z (a + i) := by
        by_cases hka : k = a
        · exact ⟨j, Nat.le_refl _, by rw [hka]; exact sw2_left z _ _⟩
        · exact ⟨k - a, by omega, by rw [sw2_other z hka (by omega), show a + (k - a) = k by omega]⟩
      obtain ⟨i, hi, e⟩ := hk
      show sw2 z a (a + j) k ≤ _
      rw [e]
      by_cases hq : q = a + j
      · rw [hq, hj']
        exact hh.max i (by omega)
      · rw [hoth q (by omega)]
        exact t2 (a + i) q (by omega) (by omega) (by omega) h4)
    intro p q h1 h2 h3 h4
    exact hall p h1 h2 q h3 h4
theorem Heap.swap {z : Nat → Int} {a j : Nat} (h : Heap z a 0 (j + 1)) : Heap (sw2 z a (a + j)) a 1 j := fun k hk c hc hm => by
  rw [sw2_other z (by omega) (by omega), sw2_other z (by omega) (by omega)]
  exact h k (Nat.zero_le _) c hc (by omega)
theorem sw2_self (z : Nat → Int) (i : Nat) : sw2 z i i = z := by
  funext k
  unfold sw2
  by_cases h : k = i
  · rw [if_pos h, h]
  · rw [if_neg h, if_neg h]
set_option maxRecDepth 100000 in
set_option maxHeartbeats 1000000 in
theorem sift_none (A : Option Addr) (n cap : Nat) (a : Int) (w : World) :
    Calls Try.prog 63 #[.slice A n cap, .int .i64 0, .int .i64 0, .int .i64 a] w fun e w' => e = .returned (.tuple #[]) ∧ w = w' := by
  go_enter Try.func63, Try.ntmps63
  go_wp2_with (fail)
  go_loopw [8] (fun vr wr => vr = .int .i64 0 ∧ w = wr) (fun _ _ => 0)
  case atStart => exact ⟨rfl, rfl⟩
  case round =>
    obtain ⟨rfl, rfl⟩ := hrel
    go_wp2_with (fail)
    go_end0
    exact ⟨rfl, rfl⟩
set_option maxRecDepth 100000 in
set_option maxHeartbeats 8000000 in
theorem heap_part (b n cap a m e : Nat) (z0 : Nat → Int) (w : World) (hz : RowI w b n z0) (hn : n ≤ 1000000) (hnc : n ≤ cap) (hmn : a + m ≤ n) (hm0 : 0 < m) (he : e = a + m) :
    Calls Try.prog 53 #[.slice (some ⟨b, 0, none⟩) n cap, .int .i64 a, .int .i64 e] w fun e w' => e = .returned (.tuple #[]) ∧ (∃ z, RowI w' b n z ∧ Sw a (a + m) z0 z ∧ Srt z a (a + m)) ∧ Kw (fun x => x = b) w w' := by
  have HZ := Lib.hid hz
  have hea : (e : Int) - (a : Int) = (m : Int) := by omega
  obtain ⟨k0, hk0⟩ : ∃ k0 : Nat, k0 = (m - 1) / 2 := ⟨_, rfl⟩
  have hq : Int.tdiv ((m : Int) - 1) 2 = (k0 : Int) := by
    rw [show ((m : Int) - 1) = ((m - 1 : Nat) : Int) by omega, hk0]
    rfl
  have HK0 := Lib.hid hk0
  have hk0b : k0 ≤ 1000000 := by omega
  have HE := Lib.hid he
  have hmi : (0 : Int) < (m : Int) := by omega
  clear hz hk0 he
  go_enter Try.func53, Try.ntmps53
  go_wp2_with (fail)
  go_loopw [9] (fun vi wr => ∃ (z : Nat → Int), ((∃ j : Nat, vi = .int .i64 j ∧ j < m ∧ Heap z a (j + 1) m) ∨ (vi = .int .i64 (-1) ∧ Heap z a 0 m)) ∧ RowI wr b n z ∧ Sw a (a + m) z0 z ∧ Kw (fun x => x = b) w wr) (fun i _ => (intOf i + 1).toNat)
  case atStart => exact ⟨z0, .inl ⟨k0, rfl, by have := HK0.out; omega, fun k hk c hc hcm => by have := HK0.out; omega⟩, HZ.out, .refl, Kw.refl _ _⟩
  case round =>
    obtain ⟨z, hcase, hr, hp, hk⟩ := hrel
    have HR := Lib.hid hr
    have HP := Lib.hid hp
    have HK := Lib.hid hk
    clear hr hp hk
    rcases hcase with ⟨j, rfl, hjm, hh⟩ | ⟨rfl, hh⟩
    · have HH := Lib.hid hh
      have hj0 : (0 : Int) ≤ (j : Int) := by omega
      clear hh
      go_wp2_with ((go_at_call 63; refine Hid.out ?_))
      refine Lib.hid ?_
      refine (sift_part b n cap a j m z wr HR.out hn hnc hmn hjm HH.out).mono ?_
      rintro e' w2 ⟨rfl, ⟨z2, hr2, hp2, hh2⟩, hk2⟩
      have HR2 := Lib.hid hr2
      have HP2 := Lib.hid (HP.out.trans hp2)
      have HH2 := Lib.hid hh2
      have HK2 := Lib.hid (HK.out.trans hk2)
      clear hr2 hp2 hh2 hk2
      by_cases hj : j = 0
      · subst hj
        go_wp2_with (fail)
        go_roundw
        case rel => exact ⟨z2, .inr ⟨by first | rfl | go_num, HH2.out⟩, HR2.out, HP2.out, HK2.out⟩
        case measure => simp [intOf]
      · obtain ⟨j', rfl⟩ : ∃ j', j = j' + 1 := ⟨j - 1, by omega⟩
        have hjj : ((j' + 1 : Nat) : Int) - 1 = (j' : Int) := by omega
        have HJJ := Lib.hid hjj
        clear hjj
        go_wp2_with (fail)
        go_roundw
        case rel => exact ⟨z2, .inl ⟨j', by first | (rw [HJJ.out]) | (simp; done) | go_num, by omega, HH2.out⟩, HR2.out, HP2.out, HK2.out⟩
        case measure => simp [intOf]; omega
    · have HH := Lib.hid hh
      clear hh
      have hm1 : (m : Int) - 1 = ((m - 1 : Nat) : Int) := by omega
      go_wp2_with (fail)
      go_loopw [10] (fun vi wr => ∃ (z : Nat → Int), ((∃ j : Nat, vi = .int .i64 j ∧ j < m ∧ Heap z a 0 (j + 1) ∧ TL z a (j + 1) m) ∨ (vi = .int .i64 (-1) ∧ Srt z a (a + m))) ∧ RowI wr b n z ∧ Sw a (a + m) z0 z ∧ Kw (fun x => x = b) w wr) (fun i _ => (intOf i + 1).toNat)
      case atStart => exact ⟨z, .inl ⟨m - 1, rfl, by omega, by rw [show m - 1 + 1 = m by omega]; exact HH.out, by rw [show m - 1 + 1 = m by omega]; exact ⟨fun p q h0 h1 h2 => by omega, fun p q h1 h2 h3 h4 => by omega⟩⟩, HR.out, HP.out, HK.out⟩
      case round =>
        obtain ⟨z, hcase, hr, hp, hk⟩ := hrel
        have HR := Lib.hid hr
        have HP := Lib.hid hp
        have HK := Lib.hid hk
        clear hr hp hk hm1
        rcases hcase with ⟨j, rfl, hjm, hh, ht⟩ | ⟨rfl, hs⟩
        · have HH := Lib.hid hh
          have HT := Lib.hid ht
          have hj0 : (0 : Int) ≤ (j : Int) := by omega
          have q1 : (0 : Int) ≤ (a : Int) + (j : Int) := by omega
          have q2 : (a : Int) + (j : Int) < (n : Int) := by omega
          have q3 : ((a : Int) + (j : Int)).toNat = a + j := by omega
          have q4 : (0 : Int) ≤ (a : Int) := by omega
          have q5 : (a : Int) < (n : Int) := by omega
          clear hh ht
          by_cases hj : j = 0
          · subst hj
            obtain ⟨sa0, sf0⟩ := HR.out.2 (a) (by omega)
            have sbw := HR.out.1
            obtain ⟨sx, hsx⟩ : ∃ x, z (a) = x := ⟨_, rfl⟩
            rw [hsx] at sa0
            have HSX := Lib.hid hsx
            clear hsx
            go_wp2_with (fail)
            go_region
            have HR3 : Hid (RowI (((wr.setCell ⟨b, a, none⟩ (.int .u64 sx)).setCell ⟨b, a, none⟩ (.int .u64 sx)).drew) b n (sw2 z (a) (a))) := Lib.hid (by
              have h := HR.out.sw2 (i := a) (j := a) (by omega) (by omega)
              rw [HSX.out] at h
              exact h)
            have HK3 : Hid (Kw (fun x => x = b) w (((wr.setCell ⟨b, a, none⟩ (.int .u64 sx)).setCell ⟨b, a, none⟩ (.int .u64 sx)).drew)) := Lib.hid (((HK.out.setCell (p := ⟨b, a, none⟩) rfl _).setCell (p := ⟨b, a, none⟩) rfl _).drew)
            have HP3 : Hid (Sw a (a + m) z0 (sw2 z (a) (a))) := Lib.hid (.step (a) (a) (by omega) (by omega) HP.out)
            clear sa0 sf0 sbw
            generalize (((wr.setCell ⟨b, a, none⟩ (.int .u64 sx)).setCell ⟨b, a, none⟩ (.int .u64 sx)).drew) = w3 at *
            clear q1 q2 q3 q4 q5
            go_wp2_with ((go_at_call 63; refine Hid.out ?_))
            refine Lib.hid ?_
            refine (sift_none (some ⟨b, 0, none⟩) n cap (a : Int) w3).mono ?_
            rintro e' w4 ⟨rfl, rfl⟩
            have HV : Hid (Srt (sw2 z a a) a (a + m)) := Lib.hid (TL.step hjm HH.out HT.out .refl).1
            go_wp2_with (fail)
            go_roundw
            case rel => exact ⟨_, .inr ⟨by first | rfl | go_num, HV.out⟩, HR3.out, HP3.out, HK3.out⟩
            case measure => simp [intOf]
          · have hjp : 0 < j := by omega
            have hne : ¬ a = a + j := by omega
            obtain ⟨sa0, sf0⟩ := HR.out.2 (a) (by omega)
            obtain ⟨sa1, sf1⟩ := HR.out.2 (a + j) (by omega)
            have sbw := HR.out.1
            obtain ⟨sx, hsx⟩ : ∃ x, z (a) = x := ⟨_, rfl⟩
            obtain ⟨sy, hsy⟩ : ∃ y, z (a + j) = y := ⟨_, rfl⟩
            rw [hsx] at sa0
            rw [hsy] at sa1
            have HSX := Lib.hid hsx
            have HSY := Lib.hid hsy
            clear hsx hsy
            go_wp2_with (fail)
            go_region
            have HR3 : Hid (RowI (((wr.setCell ⟨b, a, none⟩ (.int .u64 sy)).setCell ⟨b, a + j, none⟩ (.int .u64 sx)).drew) b n (sw2 z (a) (a + j))) := Lib.hid (by
              have h := HR.out.sw2 (i := a) (j := a + j) (by omega) (by omega)
              rw [HSX.out, HSY.out] at h
              exact h)
            have HK3 : Hid (Kw (fun x => x = b) w (((wr.setCell ⟨b, a, none⟩ (.int .u64 sy)).setCell ⟨b, a + j, none⟩ (.int .u64 sx)).drew)) := Lib.hid (((HK.out.setCell (p := ⟨b, a, none⟩) rfl _).setCell (p := ⟨b, a + j, none⟩) rfl _).drew)
            have HP3 : Hid (Sw a (a + m) z0 (sw2 z (a) (a + j))) := Lib.hid (.step (a) (a + j) (by omega) (by omega) HP.out)
            clear sa0 sf0 sa1 sf1 sbw
            generalize (((wr.setCell ⟨b, a, none⟩ (.int .u64 sy)).setCell ⟨b, a + j, none⟩ (.int .u64 sx)).drew) = w3 at *
            clear q1 q2 q3 q4 q5
            go_wp2_with ((go_at_call 63; refine Hid.out ?_))
            refine Lib.hid ?_
            refine (sift_part b n cap a 0 j _ w3 HR3.out hn hnc (by omega) (by omega) HH.out.swap).mono ?_
            rintro e' w4 ⟨rfl, ⟨z2, hr2, hp2, hh2⟩, hk2⟩
            have HV := Lib.hid (TL.step hjm HH.out HT.out hp2)
            have HR4 := Lib.hid hr2
            have HP4 := Lib.hid (HP3.out.trans (hp2.mono (Nat.le_refl _) (by omega)))
            have HH4 := Lib.hid hh2
            have HK4 := Lib.hid (HK3.out.trans hk2)
            clear hr2 hp2 hh2 hk2 hne
            obtain ⟨j', rfl⟩ : ∃ j', j = j' + 1 := ⟨j - 1, by omega⟩
            have hjj : ((j' + 1 : Nat) : Int) - 1 = (j' : Int) := by omega
            have HJJ := Lib.hid hjj
            clear hjj
            go_wp2_with (fail)
            go_roundw
            case rel => exact ⟨z2, .inl ⟨j', by first | (rw [HJJ.out]) | (simp; done) | go_num, by omega, HH4.out, HV.out⟩, HR4.out, HP4.out, HK4.out⟩
            case measure => simp [intOf]; omega
        · have HS := Lib.hid hs
          clear hs
          go_wp2_with (fail)
          go_end0
          exact ⟨rfl, ⟨z, HR.out, HP.out, HS.out⟩, HK.out⟩
end Go.Proofs.Ytmalcekbhnkfgaa
