/- Contract of pdqsort. Conditions: as each theorem states them. -/
import Derived.Test.YtmalcekbhnkfgaaI2
import Derived.Deep.Cut
import Derived.Deep.CutRange
import Derived.Deep.LoopGhost
namespace Go.Proofs.Ytmalcekbhnkfgaa
open Go.RowKit Go.Maps
set_option linter.unusedVariables false
set_option linter.unusedSimpArgs false

/-- All pairs of [a, m) that do not both lie in [a', m') are in order. -/
def OutS (z : Nat → Int) (a m a' m' : Nat) : Prop := ∀ p q, a ≤ p → p < q → q < m → (p < a' ∨ m' ≤ q) → z p ≤ z q
theorem OutS.start (z : Nat → Int) (a m : Nat) : OutS z a m a m := fun p q h1 h2 h3 h4 => by omega
theorem OutS.step {z z' : Nat → Int} {a m a' m' : Nat} (h : OutS z a m a' m') (hs : Sw a' m' z z') (ha : a ≤ a') (hm : m' ≤ m) : OutS z' a m a' m' := fun p q h1 h2 h3 h4 => by
  rcases h4 with h4 | h4
  · rw [hs.out (k := p) (Or.inl h4)]
    by_cases hq : a' ≤ q ∧ q < m'
    · exact hs.all (P := fun x => z p ≤ x) (fun k k1 k2 => h p k h1 (by omega) (by omega) (Or.inl h4)) q hq.1 hq.2
    · rw [hs.out (k := q) (by omega)]
      exact h p q h1 h2 h3 (Or.inl h4)
  · rw [hs.out (k := q) (Or.inr h4)]
    by_cases hp : a' ≤ p ∧ p < m'
    · exact hs.all (P := fun x => x ≤ z q) (fun k k1 k2 => h k q (by omega) (by omega) h3 (Or.inr h4)) p hp.1 hp.2
    · rw [hs.out (k := p) (by omega)]
      exact h p q h1 h2 h3 (Or.inr h4)
theorem OutS.done {z : Nat → Int} {a m a' m' : Nat} (h : OutS z a m a' m') (hs : Srt z a' m') : Srt z a m := fun p q h1 h2 h3 => by
  by_cases hp : p < a' ∨ m' ≤ q
  · exact h p q h1 h2 h3 hp
  · exact hs p q (by omega) h2 (by omega)
theorem OutS.left {z : Nat → Int} {a m a' m' mid : Nat} (h : OutS z a m a' m') (hs : Srt z a' mid) (hp : Parts z a' m' mid) (h1 : a' ≤ mid) (h2 : mid < m') : OutS z a m (mid + 1) m' := fun p q p1 p2 p3 p4 => by
  by_cases hx : p < a' ∨ m' ≤ q
  · exact h p q p1 p2 p3 hx
  · have hpm : p ≤ mid := by omega
    by_cases hq : q < mid
    · exact hs p q (by omega) p2 hq
    · have e1 : z p ≤ z mid := by
        rcases Nat.lt_or_eq_of_le hpm with e | e
        · exact Int.le_of_lt (hp.1 p (by omega) e)
        · rw [e]; exact Int.le_refl _
      have e2 : z mid ≤ z q := by
        rcases Nat.lt_or_ge mid q with e | e
        · exact hp.2 q e (by omega)
        · rw [show q = mid by omega]; exact Int.le_refl _
      exact Int.le_trans e1 e2
theorem OutS.right {z : Nat → Int} {a m a' m' mid : Nat} (h : OutS z a m a' m') (hs : Srt z (mid + 1) m') (hp : Parts z a' m' mid) (h1 : a' ≤ mid) (h2 : mid < m') : OutS z a m a' mid := fun p q p1 p2 p3 p4 => by
  by_cases hx : p < a' ∨ m' ≤ q
  · exact h p q p1 p2 p3 hx
  · by_cases hpq : mid < p
    · exact hs p q (by omega) p2 (by omega)
    · have e1 : z p ≤ z mid := by
        rcases Nat.lt_or_ge p mid with e | e
        · exact Int.le_of_lt (hp.1 p (by omega) e)
        · rw [show p = mid by omega]; exact Int.le_refl _
      have e2 : z mid ≤ z q := by
        rcases Nat.lt_or_ge mid q with e | e
        · exact hp.2 q e (by omega)
        · rw [show q = mid by omega]; exact Int.le_refl _
      exact Int.le_trans e1 e2
theorem OutS.eq {z : Nat → Int} {a m a' m' mid : Nat} {c : Int} (h : OutS z a m a' m') (he : ∀ k, a' ≤ k → k < mid → z k = c) (hg : ∀ k, a' ≤ k → k < m' → c ≤ z k) : OutS z a m mid m' := fun p q p1 p2 p3 p4 => by
  by_cases hx : p < a' ∨ m' ≤ q
  · exact h p q p1 p2 p3 hx
  · rw [he p (by omega) (by omega)]
    exact hg q (by omega) (by omega)
theorem OutS.pre {z : Nat → Int} {a m a' m' : Nat} (h : OutS z a m a' m') (hp : PreA z a m) (ha : a ≤ a') (hm : m' ≤ m) : PreA z a' m' := fun h0 k k1 k2 => by
  rcases Nat.lt_or_eq_of_le ha with e | e
  · exact h (a' - 1) k (by omega) (by omega) (by omega) (Or.inl (by omega))
  · subst e
    exact hp h0 k k1 (by omega)
theorem PreA.sw {z z' : Nat → Int} {a m : Nat} (h : PreA z a m) (hs : Sw a m z z') : PreA z' a m := fun h0 k k1 k2 => by
  rw [hs.out (k := a - 1) (Or.inl (by omega))]
  exact hs.all (P := fun x => z (a - 1) ≤ x) (h h0) k k1 k2
theorem Parts.sw_left {z z' : Nat → Int} {a m mid : Nat} (h : Parts z a m mid) (hs : Sw a mid z z') : Parts z' a m mid := by
  refine ⟨fun k k1 k2 => ?_, fun k k1 k2 => ?_⟩
  · rw [hs.out (k := mid) (Or.inr (Nat.le_refl _))]
    exact hs.all (P := fun x => x < z mid) h.1 k k1 k2
  · rw [hs.out (k := mid) (Or.inr (Nat.le_refl _)), hs.out (k := k) (Or.inr (Nat.le_of_lt k1))]
    exact h.2 k k1 k2
theorem Parts.sw_right {z z' : Nat → Int} {a m mid : Nat} (h : Parts z a m mid) (hs : Sw (mid + 1) m z z') : Parts z' a m mid := by
  refine ⟨fun k k1 k2 => ?_, fun k k1 k2 => ?_⟩
  · rw [hs.out (k := mid) (Or.inl (Nat.lt_succ_self _)), hs.out (k := k) (Or.inl (by omega))]
    exact h.1 k k1 k2
  · rw [hs.out (k := mid) (Or.inl (Nat.lt_succ_self _))]
    exact hs.all (P := fun x => z mid ≤ x) (fun j j1 j2 => h.2 j (by omega) j2) k k1 k2
/-- Where a sort of [a, m) stands that has [a', m') left. -/
def Stt (w : World) (b n a m a' m' : Nat) (z0 : Nat → Int) (wr : World) : Prop := ∃ z, RowI wr b n z ∧ Sw a m z0 z ∧ Kw (fun x => x = b) w wr ∧ OutS z a m a' m'
theorem Stt.step {w wr w2 : World} {b n a m a' m' : Nat} {z0 z z' : Nat → Int} (h1 : Sw a m z0 z) (h2 : Kw (fun x => x = b) w wr) (h3 : OutS z a m a' m') (hr : RowI w2 b n z') (hs : Sw a' m' z z') (hk : Kw (fun x => x = b) wr w2) (ha : a ≤ a') (hm : m' ≤ m) : Stt w b n a m a' m' z0 w2 :=
  ⟨z', hr, h1.trans (hs.mono ha hm), h2.trans hk, h3.step hs ha hm⟩

set_option maxHeartbeats 16000000 in
set_option maxRecDepth 1000000 in
theorem pdq_any (b n cap : Nat) (hn : n ≤ 1000000) (hnc : n ≤ cap) : ∀ (N a m limit : Nat) (z0 : Nat → Int) (w : World), m - a < N → a ≤ m → m ≤ n → limit ≤ 1000 → RowI w b n z0 → PreA z0 a m →
    Calls Try.prog 50 #[.slice (some ⟨b, 0, none⟩) n cap, .int .i64 a, .int .i64 m, .int .i64 limit] w fun e w' => e = .returned (.tuple #[]) ∧ (∃ z, RowI w' b n z ∧ Sw a m z0 z ∧ Srt z a m) ∧ Kw (fun x => x = b) w w' := by
  intro N
  induction N with
  | zero => intro _ _ _ _ _ h; exact absurd h (Nat.not_lt_zero _)
  | succ N ih =>
    intro a m limit z0 w hN ham hmn hlimit hz hpre
    have HZ := Lib.hid hz
    have HPRE := Lib.hid hpre
    have IH := Lib.hid ih
    clear hz hpre ih
    go_enter Try.func50, Try.ntmps50
    go_wp2
    go_loopg [1, 2, 3, 8, 9] (m - a) (fun k s1 s2 s3 s8 s9 wr => ∃ (a' m' lim : Nat) (wb wp : Bool), s1 = .int .i64 a' ∧ s2 = .int .i64 m' ∧ s3 = .int .i64 lim ∧ s8 = .bool wb ∧ s9 = .bool wp ∧
      a ≤ a' ∧ a' ≤ m' ∧ m' ≤ m ∧ m' - a' ≤ k ∧ k ≤ m - a ∧ lim ≤ limit ∧ Stt w b n a m a' m' z0 wr)
    case atStart => exact ⟨a, m, limit, true, true, rfl, rfl, rfl, rfl, rfl, Nat.le_refl _, ham, Nat.le_refl _, Nat.le_refl _, Nat.le_refl _, Nat.le_refl _, ⟨z0, HZ.out, .refl, Kw.refl _ _, OutS.start _ _ _⟩⟩
    case round =>
      obtain ⟨a', m', lim, wb, wp, rfl, rfl, rfl, rfl, rfl, haa, ham', hm', hk, hkN, hlim, ⟨z, hr, hs, hkw, hout⟩⟩ := hrel
      have HR := Lib.hid hr
      have HS := Lib.hid hs
      have HK := Lib.hid hkw
      have HO := Lib.hid hout
      have HP : Hid (PreA z a' m') := Lib.hid (hout.pre (HPRE.out.sw hs) haa hm')
      clear hr hs hkw hout
      have hm'n : m' ≤ n := by omega
      by_cases h12 : m' - a' ≤ 12
      · have h12z : (m' : Int) - (a' : Int) ≤ 12 := by omega
        go_wp2_with (go_at_call 52; refine (insert_part b n cap a' m' z _ HR.out hn hnc hm'n ham').mono ?_; rintro e w1 ⟨rfl, ⟨z1, hr1, hs1, ht1⟩, hk1⟩)
        (try simp only [Exit.inBlock, Exit.then]); refine bodyPost_ret (results_none rfl _ _ _) rfl ?_
        exact ⟨rfl, ⟨z1, hr1, HS.out.trans (hs1.mono haa hm'), (HO.out.step hs1 haa hm').done ht1⟩, HK.out.trans hk1⟩
      · have h12z : ¬ ((m' : Int) - (a' : Int) ≤ 12) := by omega
        by_cases hl0 : lim = 0
        · subst hl0
          go_wp2_with (go_at_call 53; refine (heap_part b n cap a' (m' - a') m' z _ HR.out hn hnc (by omega) (by omega) (by omega)).mono ?_; rintro e w1 ⟨rfl, ⟨z1, hr1, hs1, ht1⟩, hk1⟩)
          (try simp only [Exit.inBlock, Exit.then]); refine bodyPost_ret (results_none rfl _ _ _) rfl ?_
          rw [show a' + (m' - a') = m' by omega] at hs1 ht1
          exact ⟨rfl, ⟨z1, hr1, HS.out.trans (hs1.mono haa hm'), (HO.out.step hs1 haa hm').done ht1⟩, HK.out.trans hk1⟩
        · have hl0z : ¬ ((lim : Int) = 0) := by omega
          have hs0 : Hid (Stt w b n a m a' m' z0 wr) := Lib.hid ⟨z, HR.out, HS.out, HK.out, HO.out⟩
          go_upto_if 35 with fail
          go_cut [3] from 19 to 133 (fun s3 wc => (∃ l2 : Nat, s3 = .int .i64 l2 ∧ l2 ≤ limit) ∧ Stt w b n a m a' m' z0 wc)
          case first =>
            cases wb
            · go_wp2_with (go_at_call 54; refine (break_any b n cap a' m' z _ HR.out hn hnc hm'n (by omega)).mono ?_; rintro e w1 ⟨rfl, ⟨z1, hr1, hs1⟩, hk1⟩)
              go_meet
              case rel =>
                refine ⟨⟨lim - 1, ?_, by omega⟩, .step HS.out HK.out HO.out hr1 hs1 hk1 haa hm'⟩
                show Value.int .i64 ((lim : Int) - 1) = Value.int .i64 ((lim - 1 : Nat) : Int)
                congr 1
                omega
            · go_wp2_with fail
              go_meet
              case rel => exact ⟨⟨lim, rfl, hlim⟩, hs0.out⟩
          case rest =>
            clear HR HS HK HO HP hs0 hl0 hl0z
            obtain ⟨⟨l2, rfl, hl2⟩, ⟨z, hr, hs, hkw, hout⟩⟩ := hcut
            have HR := Lib.hid hr
            have HS := Lib.hid hs
            have HK := Lib.hid hkw
            have HO := Lib.hid hout
            clear hr hs hkw hout
            go_upto_if 50 with (go_at_call 55; refine (pivot_any b n cap a' m' z _ HR.out hn hm'n (by omega)).mono ?_; rintro e w2 ⟨x, hint, rfl, hx, hh, hb2⟩)
            have HR2 : Hid (RowI w2 b n z) := Lib.hid (HR.out.below hb2)
            have HK2 := Lib.hid (HK.out.trans (Kw.ofBelow (S := fun x => x = b) hb2))
            clear hb2
            go_cut [11, 12] from 19 to 133 (fun s11 s12 wc => ∃ (pv : Nat) (h2 : Int), s11 = .int .i64 pv ∧ s12 = .int .i64 h2 ∧ (h2 = 0 ∨ h2 = 1) ∧ (a' < pv ∧ pv < m') ∧ Stt w b n a m a' m' z0 wc)
            case first =>
              rcases hh with rfl | rfl | rfl
              · go_wp2_with fail
                go_meet
                case rel => exact ⟨x, 0, rfl, rfl, Or.inl rfl, by omega, ⟨z, HR2.out, HS.out, HK2.out, HO.out⟩⟩
              · go_wp2_with fail
                go_meet
                case rel => exact ⟨x, 1, rfl, rfl, Or.inr rfl, by omega, ⟨z, HR2.out, HS.out, HK2.out, HO.out⟩⟩
              · go_wp2_with (go_at_call 56; refine (reverse_part b n cap a' m' z _ HR2.out hn hnc hm'n (by omega)).mono ?_; rintro e w3 ⟨rfl, ⟨z1, hr1, hs1⟩, hk1⟩)
                go_meet
                case rel =>
                  refine ⟨m' - 1 - (x - a'), 1, ?_, rfl, Or.inr rfl, by omega, .step HS.out HK2.out HO.out hr1 hs1 hk1 haa hm'⟩
                  congr 1
                  omega
            case rest =>
              clear HR HS HK HO HR2 HK2 hh hx
              obtain ⟨pv, h2, rfl, rfl, hh, hpv, ⟨z, hr, hs, hkw, hout⟩⟩ := hcut
              have HR := Lib.hid hr
              have HS := Lib.hid hs
              have HK := Lib.hid hkw
              have HO := Lib.hid hout
              have HP : Hid (PreA z a' m') := Lib.hid (hout.pre (HPRE.out.sw hs) haa hm')
              have HS0 : Hid (Stt w b n a m a' m' z0 wc) := Lib.hid ⟨z, hr, hs, hkw, hout⟩
              clear hr hs hkw hout
              go_upto_region 15 with fail
              go_cut [12, 68] from 19 to 133 (fun s12 s68 wx => s12 = .int .i64 h2 ∧ (∃ t : Bool, s68 = .bool t) ∧ wx = wc)
              case first =>
                rcases hh with rfl | rfl <;> cases wb <;> cases wp <;>
                  (go_wp2_with fail
                   go_meet
                   exact ⟨rfl, ⟨_, rfl⟩, rfl⟩)
              case rest =>
                obtain ⟨rfl, ⟨t, rfl⟩, rfl⟩ := hcut
                go_upto_if 68 with fail
                go_cut [] from 19 to 133 (fun wx => Stt w b n a m a' m' z0 wx)
                case first =>
                  cases t
                  · go_wp2_with fail
                    go_meet
                    case rel => exact HS0.out
                  · go_wp2_with (go_at_call 57; refine (pins_part b n cap a' m' z _ HR.out hn hnc hm'n (by omega) HP.out).mono ?_; rintro e w4 ⟨rb, z1, rfl, hr1, hs1, ht1, hk1⟩; have HT := Lib.hid ht1; clear ht1)
                    all_goals first
                      | (have hf : rb = false := by assumption
                         go_meet
                         exact .step HS.out HK.out HO.out hr1 hs1 hk1 haa hm')
                      | (have ht : rb = true := by assumption
                         (try simp only [Exit.inBlock, Exit.then]); refine bodyPost_ret (results_none rfl _ _ _) rfl ?_
                         exact ⟨rfl, ⟨z1, hr1, HS.out.trans (hs1.mono haa hm'), (HO.out.step hs1 haa hm').done (HT.out ht)⟩, HK.out.trans hk1⟩)
                case rest =>
                  clear HR HS HK HO HP HS0
                  obtain ⟨z, hr, hs, hkw, hout⟩ := hcut
                  have HR := Lib.hid hr
                  have HS := Lib.hid hs
                  have HK := Lib.hid hkw
                  have HO := Lib.hid hout
                  have HP : Hid (PreA z a' m') := Lib.hid (hout.pre (HPRE.out.sw hs) haa hm')
                  clear hr hs hkw hout
                  go_upto_region 17 with fail
                  go_cut [87] from 19 to 133 (fun s87 wx => (∃ t : Bool, s87 = .bool t ∧ (t = true → 0 < a' ∧ z pv ≤ z (a' - 1))) ∧ RowI wx b n z ∧ Kw (fun x => x = b) w wx)
                  case first =>
                    by_cases ha0 : 0 < a'
                    · have G0 : Hid (decide ((0 : Int) < (a' : Int)) = true) := Lib.hid (decide_eq_true (by omega))
                      have G1 : Hid (decide ((a' : Int) > 0) = true) := Lib.hid (decide_eq_true (by omega))
                      have G2 : Hid (decide (0 < a') = true) := Lib.hid (decide_eq_true ha0)
                      have up0 : (0 : Int) ≤ (a' : Int) - 1 := by omega
                      have up1 : (a' : Int) - 1 < (n : Int) := by omega
                      have upn : ((a' : Int) - 1).toNat = a' - 1 := by omega
                      have uq0 : (0 : Int) ≤ (pv : Int) := by omega
                      have uq1 : (pv : Int) < (n : Int) := by omega
                      obtain ⟨xp, hxp⟩ : ∃ x, z (a' - 1) = x := ⟨_, rfl⟩
                      obtain ⟨xq, hxq⟩ : ∃ x, z pv = x := ⟨_, rfl⟩
                      obtain ⟨rap, rfp⟩ := HR.out.2 (a' - 1) (by omega)
                      obtain ⟨raq, rfq⟩ := HR.out.2 pv (by omega)
                      rw [hxp] at rap
                      rw [hxq] at raq
                      have HXp := Lib.hid hxp
                      have HXq := Lib.hid hxq
                      clear hxp hxq rfp rfq
                      have rqp := ext_cell rap
                      have rqq := ext_cell raq
                      have rbw := HR.out.1
                      obtain ⟨t, hlt⟩ : ∃ t, decide (xp < xq) = t := ⟨_, rfl⟩
                      have HLS : Hid (∀ w, Calls Try.prog 58 #[.int .u64 xp, .int .u64 xq] w fun e w' => e = .returned (.bool t) ∧ w = w') := Lib.hid (fun w => by have h := less_u xp xq w; rwa [hlt] at h)
                      have HLT := Lib.hid hlt
                      clear hlt
                      refine wp_region_ext (by kernel_rfl) (by kernel_rfl) ?_
                      repeat (first | rw [G0.out] | rw [G1.out] | rw [G2.out] | go_big_quiet_step ((go_at_call 58; exact ext_calls_same (HLS.out _))))
                      refine wpQuiet_nil ?_
                      rintro wq ⟨⟨_, hbx⟩, rfl⟩
                      have HRq : Hid (RowI wq b n z) := Lib.hid (HR.out.below hbx)
                      have HKq := Lib.hid (HK.out.trans (Kw.ofBelow (S := fun x => x = b) hbx))
                      clear hbx
                      go_wp2_with fail
                      go_meet
                      case rel =>
                        refine ⟨⟨!t, rfl, fun h => ⟨ha0, ?_⟩⟩, HRq.out, HKq.out⟩
                        rw [HXp.out, HXq.out]
                        have h1 := HLT.out
                        cases t
                        · have h2 := of_decide_eq_false h1
                          omega
                        · exact absurd h (by decide)
                    · have G0 : Hid (decide ((0 : Int) < (a' : Int)) = false) := Lib.hid (decide_eq_false (by omega))
                      have G1 : Hid (decide ((a' : Int) > 0) = false) := Lib.hid (decide_eq_false (by omega))
                      have G2 : Hid (decide (0 < a') = false) := Lib.hid (decide_eq_false ha0)
                      refine wp_region_ext (by kernel_rfl) (by kernel_rfl) ?_
                      repeat (first | rw [G0.out] | rw [G1.out] | rw [G2.out] | go_big_quiet_step (fail))
                      refine wpQuiet_nil ?_
                      rintro wq ⟨⟨_, hbx⟩, rfl⟩
                      have HRq : Hid (RowI wq b n z) := Lib.hid (HR.out.below hbx)
                      have HKq := Lib.hid (HK.out.trans (Kw.ofBelow (S := fun x => x = b) hbx))
                      clear hbx
                      go_wp2_with fail
                      go_meet
                      case rel => exact ⟨⟨false, rfl, fun h => absurd h (by decide)⟩, HRq.out, HKq.out⟩
                  case rest =>
                    obtain ⟨⟨t, rfl, ht⟩, hr, hkw⟩ := hcut
                    clear HR HK
                    have HR := Lib.hid hr
                    have HK := Lib.hid hkw
                    have HT := Lib.hid ht
                    clear hr hkw ht
                    cases t
                    · go_upto_if 113 with (go_at_call 60; refine (partition_ne b n cap a' m' pv z _ HR.out hn hnc hm'n hpv.1 hpv.2).mono ?_; rintro e w7 ⟨mid, ap, z7, rfl, hr7, hs7, hm1, hm2, hp7, hk7⟩)
                      have HR7 := Lib.hid hr7
                      have HS7 := Lib.hid (HS.out.trans (hs7.mono haa hm'))
                      have HO7 := Lib.hid (HO.out.step hs7 haa hm')
                      have HP7 := Lib.hid hp7
                      have HK7 := Lib.hid (HK.out.trans hk7)
                      have HPR7 : Hid (PreA z7 a' m') := Lib.hid (HP.out.sw hs7)
                      clear hr7 hs7 hp7 hk7
                      by_cases h4 : mid - a' < m' - mid
                      · have h4z : (mid : Int) - (a' : Int) < (m' : Int) - (mid : Int) := by omega
                        go_wp2_with (go_at_call 50; refine (IH.out a' mid l2 z7 _ (by omega) hm1 (by omega) (by omega) HR7.out (fun h0 k k1 k2 => HPR7.out h0 k k1 (by omega))).mono ?_; rintro e w8 ⟨rfl, ⟨z8, hr8, hs8, ht8⟩, hk8⟩)
                        go_roundg (m' - (mid + 1))
                        case measure => omega
                        case rel =>
                          refine ⟨mid + 1, m', l2, _, ap, by simp, rfl, rfl, rfl, rfl, by omega, by omega, hm', Nat.le_refl _, by omega, hl2, ⟨z8, hr8, HS7.out.trans (hs8.mono haa (by omega)), HK7.out.trans hk8, ?_⟩⟩
                          exact (HO7.out.step (hs8.mono (Nat.le_refl _) (by omega)) haa hm').left ht8 (HP7.out.sw_left hs8) hm1 hm2
                      · have h4z : ¬ ((mid : Int) - (a' : Int) < (m' : Int) - (mid : Int)) := by omega
                        go_wp2_with (go_at_call 50; refine (IH.out (mid + 1) m' l2 z7 _ (by omega) (by omega) (by omega) (by omega) HR7.out (fun h0 k k1 k2 => HP7.out.2 k (by omega) k2)).mono ?_; rintro e w8 ⟨rfl, ⟨z8, hr8, hs8, ht8⟩, hk8⟩)
                        go_roundg (mid - a')
                        case measure => omega
                        case rel =>
                          refine ⟨a', mid, l2, _, ap, rfl, rfl, rfl, rfl, rfl, haa, hm1, by omega, Nat.le_refl _, by omega, hl2, ⟨z8, hr8, HS7.out.trans (hs8.mono (by omega) hm'), HK7.out.trans hk8, ?_⟩⟩
                          exact (HO7.out.step (hs8.mono (by omega) (Nat.le_refl _)) haa hm').right ht8 (HP7.out.sw_right hs8) hm1 hm2
                    · obtain ⟨ha0, hle⟩ := HT.out rfl
                      have HLE := Lib.hid hle
                      clear hle
                      go_wp2_with (go_at_call 59; refine (partitionE_ne b n cap a' m' pv z _ HR.out hn hnc hm'n hpv.1 hpv.2).mono ?_; rintro e w7 ⟨mid, z7, rfl, hr7, hs7, hm1, hm2, ⟨hle7, hgt7⟩, hpa7, hk7⟩; have HPA := Lib.hid hpa7; clear hpa7)
                      go_roundg (m' - mid)
                      case measure => omega
                      case rel =>
                        have hc : ∀ k, a' ≤ k → k < m' → z (a' - 1) ≤ z7 k := hs7.all (P := fun x => z (a' - 1) ≤ x) (fun k k1 k2 => HP.out ha0 k k1 k2)
                        have hle := HLE.out
                        have hpe : z7 a' = z (a' - 1) := by
                          have h1 := hc a' (Nat.le_refl _) (by omega)
                          have h2 := HPA.out
                          omega
                        refine ⟨mid, m', l2, wb, wp, rfl, rfl, rfl, rfl, rfl, by omega, hm2, hm', Nat.le_refl _, by omega, hl2, ⟨z7, hr7, HS.out.trans (hs7.mono haa hm'), HK.out.trans hk7, ?_⟩⟩
                        refine (HO.out.step hs7 haa hm').eq (c := z (a' - 1)) (fun k k1 k2 => ?_) hc
                        have h1 := hle7 k k1 k2
                        have h2 := hc k k1 (by omega)
                        omega
end Go.Proofs.Ytmalcekbhnkfgaa
