/- Contract of slices.Sort of few numbers. Conditions: as each theorem states them. -/
import Derived.Test.YtmalcekbhnkfgaaB0
namespace Go.Proofs.Ytmalcekbhnkfgaa
open Go.RowKit Go.Maps
set_option linter.unusedVariables false
set_option linter.unusedSimpArgs false

set_option maxRecDepth 100000 in
set_option maxHeartbeats 4000000 in
theorem insertion_any (b n cap : Nat) (z0 : Nat → Int) (w : World) (hz : RowI w b n z0) (hn : n ≤ 1000000) (hnc : n ≤ cap) :
    Calls Try.prog 52 #[.slice (some ⟨b, 0, none⟩) n cap, .int .i64 0, .int .i64 n] w fun e w' => e = .returned (.tuple #[]) ∧ (∃ z, RowI w' b n z ∧ ((List.range n).map z).Perm ((List.range n).map z0) ∧ Ord z n) ∧ Kw (fun x => x = b) w w' := by
  have HZ := Lib.hid hz
  have HL := Lib.hid less_u
  clear hz
  go_enter Try.func52, Try.ntmps52
  go_wp2_with (fail)
  go_loopw [6] (fun vi wr => ∃ (i : Nat) (z : Nat → Int), 1 ≤ i ∧ (i ≤ n ∨ i = 1) ∧ vi = .int .i64 i ∧ RowI wr b n z ∧ ((List.range n).map z).Perm ((List.range n).map z0) ∧ Ord z i ∧ Kw (fun x => x = b) w wr) (fun i _ => n - (intOf i).toNat)
  case atStart => exact ⟨1, z0, Nat.le_refl _, .inr rfl, rfl, HZ.out, List.Perm.refl _, fun p q h1 h2 => by omega, Kw.refl _ _⟩
  case round =>
    obtain ⟨i, z, hi1, hin, rfl, hr, hp, ho, hk⟩ := hrel
    have HR := Lib.hid hr
    have HP := Lib.hid hp
    have HO := Lib.hid ho
    have HK := Lib.hid hk
    clear hr hp ho hk
    by_cases hi : i < n
    · have hii : (i : Int) < (n : Int) := by omega
      go_wp2_with (fail)
      go_loopw [7] (fun vj wr => ∃ (j : Nat) (z : Nat → Int), j ≤ i ∧ vj = .int .i64 j ∧ RowI wr b n z ∧ ((List.range n).map z).Perm ((List.range n).map z0) ∧ Ins z i j ∧ Kw (fun x => x = b) w wr) (fun j _ => (intOf j).toNat)
      case atStart => exact ⟨i, z, Nat.le_refl _, rfl, HR.out, HP.out, HO.out.ins, HK.out⟩
      case round =>
        obtain ⟨j, z, hji, rfl, hr, hp, ho, hk⟩ := hrel
        have HR := Lib.hid hr
        have HP := Lib.hid hp
        have HO := Lib.hid ho
        have HK := Lib.hid hk
        by_cases hj0 : j = 0
        · have H0 : Hid (decide ((0 : Int) < (j : Int)) = false) := Lib.hid (decide_eq_false (by omega))
          have H0n : Hid (decide (0 < j) = false) := Lib.hid (decide_eq_false (by omega))
          have HE : Hid (Ord z (i + 1)) := Lib.hid (by rw [hj0] at ho; exact ho.done0)
          clear hr hp ho hk hj0
          go_wp2_with (fail)
          refine wp_region_ext (by kernel_rfl) (by kernel_rfl) ?_
          repeat (first | rw [H0.out] | rw [H0n.out] | go_big_quiet_step (fail))
          refine wpQuiet_nil ?_
          rintro w2 ⟨⟨_, hb2⟩, rfl⟩
          have HR2 : Hid (RowI w2 b n z) := Lib.hid (HR.out.below hb2)
          have HK2 := Lib.hid (HK.out.trans (Kw.ofBelow hb2))
          clear hb2
          go_wp2_with (fail)
          go_roundw
          case rel => exact ⟨i + 1, z, by omega, by omega, by first | rfl | (push_cast; rfl) | go_num, HR2.out, HP.out, HE.out, HK2.out⟩
          case measure => simp [intOf]; omega
        · have H0 : Hid (decide ((0 : Int) < (j : Int)) = true) := Lib.hid (decide_eq_true (by omega))
          have H0n : Hid (decide (0 < j) = true) := Lib.hid (decide_eq_true (by omega))
          have hjj0 : (0 : Int) ≤ (j : Int) := by omega
          have hjj1 : (j : Int) < (n : Int) := by omega
          have hpj0 : (0 : Int) ≤ (j : Int) - 1 := by omega
          have hpj1 : (j : Int) - 1 < (n : Int) := by omega
          have hpjn : ((j : Int) - 1).toNat = j - 1 := by omega
          obtain ⟨a0, f0⟩ := hr.2 j (by omega)
          obtain ⟨a1, f1⟩ := hr.2 (j - 1) (by omega)
          have hbw := hr.1
          obtain ⟨x, hx⟩ : ∃ x, z j = x := ⟨_, rfl⟩
          obtain ⟨y, hy⟩ : ∃ y, z (j - 1) = y := ⟨_, rfl⟩
          rw [hx] at a0
          rw [hy] at a1
          have HX := Lib.hid hx
          have HY := Lib.hid hy
          have HJ0 := Lib.hid hj0
          have e0 := ext_cell a0
          have e1 := ext_cell a1
          clear hr hp ho hk hx hy hj0
          by_cases hlt : x < y
          · have hd : decide (x < y) = true := decide_eq_true hlt
            have HLS : Hid (∀ w, Calls Try.prog 58 #[.int .u64 x, .int .u64 y] w fun e w' => e = .returned (.bool true) ∧ w = w') := Lib.hid (fun w => by have h := HL.out x y w; rwa [hd] at h)
            have HLT := Lib.hid hlt
            clear hlt hd
            go_wp2_with (fail)
            refine wp_region_ext (by kernel_rfl) (by kernel_rfl) ?_
            repeat (first | rw [H0.out] | rw [H0n.out] | go_big_quiet_step ((go_at_call 58; exact ext_calls_same (HLS.out _))))
            refine wpQuiet_nil ?_
            rintro w2 ⟨⟨_, hb2⟩, rfl⟩
            have hs2 := hb2.size
            have HR2 : Hid (RowI w2 b n z) := Lib.hid (HR.out.below hb2)
            have HK2 := Lib.hid (HK.out.trans (Kw.ofBelow hb2))
            obtain ⟨a0, f0⟩ := HR2.out.2 j (by omega)
            obtain ⟨a1, f1⟩ := HR2.out.2 (j - 1) (by omega)
            rw [HX.out] at a0
            rw [HY.out] at a1
            have hbw2 : b < w2.heap.size := by omega
            clear hb2 e0 e1
            go_wp2_with (fail)
            go_region
            have hj' : 0 < j := by have := HJ0.out; omega
            have HR3 : Hid (RowI (((w2.setCell ⟨b, j, none⟩ (.int .u64 y)).setCell ⟨b, j - 1, none⟩ (.int .u64 x)).drew) b n (swp z j)) := Lib.hid (by
              have h := HR2.out.swap (j := j) (by omega) hj'
              rw [HX.out, HY.out] at h
              exact h)
            have HK3 : Hid (Kw (fun x => x = b) w (((w2.setCell ⟨b, j, none⟩ (.int .u64 y)).setCell ⟨b, j - 1, none⟩ (.int .u64 x)).drew)) := Lib.hid (((HK2.out.setCell (p := ⟨b, j, none⟩) rfl _).setCell (p := ⟨b, j - 1, none⟩) rfl _).drew)
            have HP3 : Hid (((List.range n).map (swp z j)).Perm ((List.range n).map z0)) := Lib.hid ((swp_perm z (by omega) hj').trans HP.out)
            have HI3 : Hid (Ins (swp z j) i (j - 1)) := Lib.hid (HO.out.swap hj' hji (by rw [HX.out, HY.out]; exact HLT.out))
            have hje : ((j - 1 : Nat) : Int) = (j : Int) - 1 := by omega
            have HJE := Lib.hid hje
            clear hje
            go_wp2_with (fail)
            go_roundw
            case rel => exact ⟨j - 1, swp z j, by omega, by rw [HJE.out], HR3.out, HP3.out, HI3.out, HK3.out⟩
            case measure => simp [intOf]; omega
          · have hd : decide (x < y) = false := decide_eq_false hlt
            have HLS : Hid (∀ w, Calls Try.prog 58 #[.int .u64 x, .int .u64 y] w fun e w' => e = .returned (.bool false) ∧ w = w') := Lib.hid (fun w => by have h := HL.out x y w; rwa [hd] at h)
            have HE : Hid (Ord z (i + 1)) := Lib.hid (HO.out.done (by have := HJ0.out; omega) hji (by rw [HX.out, HY.out]; exact hlt))
            clear hlt hd
            go_wp2_with (fail)
            refine wp_region_ext (by kernel_rfl) (by kernel_rfl) ?_
            repeat (first | rw [H0.out] | rw [H0n.out] | go_big_quiet_step ((go_at_call 58; exact ext_calls_same (HLS.out _))))
            refine wpQuiet_nil ?_
            rintro w2 ⟨⟨_, hb2⟩, rfl⟩
            have HR2 : Hid (RowI w2 b n z) := Lib.hid (HR.out.below hb2)
            have HK2 := Lib.hid (HK.out.trans (Kw.ofBelow hb2))
            clear hb2 e0 e1
            go_wp2_with (fail)
            go_roundw
            case rel => exact ⟨i + 1, z, by omega, by omega, by first | rfl | (push_cast; rfl) | go_num, HR2.out, HP.out, HE.out, HK2.out⟩
            case measure => simp [intOf]; omega
    · have hirr : ¬ (i : Int) < (n : Int) := by omega
      have HE : Hid (Ord z n) := Lib.hid (fun p q h1 h2 => HO.out p q h1 (by omega))
      go_wp2_with (fail)
      go_end0
      exact ⟨rfl, ⟨z, HR.out, HP.out, HE.out⟩, HK.out⟩
end Go.Proofs.Ytmalcekbhnkfgaa
