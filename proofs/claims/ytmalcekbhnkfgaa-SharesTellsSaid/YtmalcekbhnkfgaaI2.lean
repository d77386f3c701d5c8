/- Contracts of xorshift.Next, nextPowerOfTwo. Conditions: as each theorem states them. -/
import Derived.Test.YtmalcekbhnkfgaaH9
import Derived.Test.YtmalcekbhnkfgaaI0
import Derived.Sort.Row
import Derived.Laws.Bits64
import Derived.Laws.Bits64b
namespace Go.Proofs.Ytmalcekbhnkfgaa
open Go.RowKit Go.Maps
set_option linter.unusedVariables false
set_option linter.unusedSimpArgs false

set_option maxHeartbeats 4000000 in
theorem next_any (rb X : Nat) (hX : X < 18446744073709551616) (w : World) (hc : w.cell? ⟨rb, 0, none⟩ = some (.int .u64 X)) (hf : w.frozen? ⟨rb, 0, none⟩ = false) :
    Calls Try.prog 65 #[.pointer (some ⟨rb, 0, none⟩)] w fun e w' => ∃ Y : Nat, e = .returned (.int .u64 (Y : Int)) ∧ Y < 18446744073709551616 ∧ w' = (w.setCell ⟨rb, 0, none⟩ (.int .u64 (Y : Int))).drewN 3 := by
  obtain ⟨A, hA⟩ : ∃ A : Nat, A = X ^^^ (X * 8192 % 18446744073709551616) := ⟨_, rfl⟩
  obtain ⟨B, hB⟩ : ∃ B : Nat, B = A ^^^ (A / 128) := ⟨_, rfl⟩
  obtain ⟨C, hC⟩ : ∃ C : Nat, C = B ^^^ (B * 131072 % 18446744073709551616) := ⟨_, rfl⟩
  have lA : A < 18446744073709551616 := by rw [hA]; exact Nat.xor_lt_two_pow (n := 64) (by omega) (by omega)
  have lB : B < 18446744073709551616 := by rw [hB]; exact Nat.xor_lt_two_pow (n := 64) (by omega) (by omega)
  have lC : C < 18446744073709551616 := by rw [hC]; exact Nat.xor_lt_two_pow (n := 64) (by omega) (by omega)
  have e1 : bits .xor .u64 (X : Int) (IntKind.u64.wrap ((X : Int) * 8192)) = (A : Int) := by
    rw [IntKind.wrap_u64, show ((X : Int) * 8192 % 18446744073709551616) = ((X * 8192 % 18446744073709551616 : Nat) : Int) by omega, bits_xor_u64_nat _ _ hX (by omega), hA]
  have e2 : bits .xor .u64 (A : Int) ((A : Int) / 128) = (B : Int) := by
    rw [show ((A : Int) / 128) = ((A / 128 : Nat) : Int) by omega, bits_xor_u64_nat _ _ lA (by omega), hB]
  have e3 : bits .xor .u64 (B : Int) (IntKind.u64.wrap ((B : Int) * 131072)) = (C : Int) := by
    rw [IntKind.wrap_u64, show ((B : Int) * 131072 % 18446744073709551616) = ((B * 131072 % 18446744073709551616 : Nat) : Int) by omega, bits_xor_u64_nat _ _ lB (by omega), hC]
  clear hA hB hC
  have hss : ∀ v v', (w.setCell ⟨rb, 0, none⟩ v).setCell ⟨rb, 0, none⟩ v' = w.setCell ⟨rb, 0, none⟩ v' := fun v v' => by
    rw [Go.Sort.setCell_eq, Go.Sort.setCell_eq, Go.Sort.mapBlock_mapBlock, Go.Sort.setCell_eq]
    congr 1
    funext c
    simp
  go_enter Try.func65, Try.ntmps65
  go_wp2
  go_region
  all_goals go_wp2
  all_goals go_region
  all_goals go_wp2
  all_goals go_region
  all_goals go_wp2
  go_ret
  exact ⟨C, rfl, lC, rfl⟩
theorem wrap_pow (k : Nat) (hk : k ≤ 62) : IntKind.u64.wrap ((2 : Int) ^ k) = ((2 ^ k : Nat) : Int) := by
  have h : (2 : Nat) ^ k ≤ 2 ^ 62 := Nat.pow_le_pow_right (by decide) hk
  rw [IntKind.wrap_u64, show ((2 : Int) ^ k) = ((2 ^ k : Nat) : Int) by push_cast; rfl]
  generalize (2 : Nat) ^ k = p at h
  omega
theorem power_any (n : Nat) (h0 : 0 < n) (hn : n ≤ 1000000) (w : World) :
    Calls Try.prog 64 #[.int .i64 n] w fun e w' => ∃ M : Nat, e = .returned (.int .u64 (M : Int)) ∧ 0 < M ∧ M ≤ 2 * n ∧ w' = w := by
  obtain ⟨k, hk⟩ : ∃ k, Lib.bitLen n = k := ⟨_, rfl⟩
  have hLen : ∀ w, Calls Try.prog 51 #[.int .u64 (n : Int)] w fun e w' => e = .returned (.int .i64 (k : Nat)) ∧ w' = w := fun w => by
    have h := len_any (n : Int) w (by omega) (by omega)
    rwa [Int.toNat_natCast, hk] at h
  have hp : 2 ^ k ≤ 2 * n := by rw [← hk]; exact bitLen_pow n h0 (by omega)
  have hk62 : k ≤ 62 := by
    rcases Nat.lt_or_ge 62 k with h | h
    · have := Nat.pow_le_pow_right (n := 2) (by decide) (Nat.le_of_lt h)
      have h62 : (2 : Nat) ^ 62 = 4611686018427387904 := by decide
      omega
    · exact h
  have hw := wrap_pow k hk62
  have h0k : 0 < 2 ^ k := Nat.two_pow_pos k
  have HPk := Lib.hid hp
  have H0k := Lib.hid h0k
  clear hk hp h0k
  go_enter Try.func64, Try.ntmps64
  go_wp2_with (first | (go_at_call 51; refine (hLen _).mono ?_; rintro e w' ⟨rfl, rfl⟩))
  go_ret
  exact ⟨2 ^ k, rfl, H0k.out, HPk.out, rfl⟩
end Go.Proofs.Ytmalcekbhnkfgaa
namespace Go.Proofs.Ytmalcekbhnkfgaa
open Go.RowKit Go.Maps
set_option linter.unusedVariables false
set_option linter.unusedSimpArgs false

theorem RowI.kwS {S : Nat → Prop} {w w' : World} {b n : Nat} {z : Nat → Int} (h : RowI w b n z) (hne : ¬ S b) (hk : Kw S w w') : RowI w' b n z := by
  refine ⟨Nat.lt_of_lt_of_le h.1 hk.size, fun i hi => ?_⟩
  obtain ⟨h1, h2⟩ := h.2 i hi
  exact ⟨(hk.cell h.1 hne).trans h1, (hk.frozen h.1 hne).trans h2⟩
open Go.Shelf in
set_option maxRecDepth 100000 in
set_option maxHeartbeats 4000000 in
theorem break_any (b n cap a m : Nat) (z0 : Nat → Int) (w : World) (hz : RowI w b n z0) (hn : n ≤ 1000000) (hnc : n ≤ cap) (hmn : m ≤ n) (ham : a + 13 ≤ m) :
    Calls Try.prog 54 #[.slice (some ⟨b, 0, none⟩) n cap, .int .i64 a, .int .i64 m] w fun e w' => e = .returned (.tuple #[]) ∧ (∃ z, RowI w' b n z ∧ Sw a m z0 z) ∧ Kw (fun x => x = b) w w' := by
  obtain ⟨l, hl⟩ : ∃ l, m - a = l := ⟨_, rfl⟩
  obtain ⟨s0, hs0⟩ : ∃ s0, a + (l / 4) * 2 - 1 = s0 := ⟨_, rfl⟩
  have eml : (m : Int) - (a : Int) = (l : Int) := by omega
  have HS : Hid ((a : Int) + (l : Int) / 4 * 2 - 1 = (s0 : Int)) := Lib.hid (by omega)
  have hsq1 : (s0 : Int) + 1 ≤ (a : Int) + (l : Int) / 4 * 2 := by omega
  have hsq2 : (a : Int) + (l : Int) / 4 * 2 ≤ (s0 : Int) + 1 := by omega
  have hl8 : (8 : Int) ≤ (l : Int) := by omega
  have hs1 : a < s0 ∧ s0 + 3 ≤ m := by omega
  have hlm : l + a ≤ m := by omega
  have hl13 : 13 ≤ l := by omega
  clear hl hs0
  have HZ := Lib.hid hz
  clear hz
  go_enter Try.func54, Try.ntmps54
  go_wp2_with (fail)
  refine (power_any l (by omega) (by omega) _).mono ?_
  rintro e w1 ⟨M, rfl, hM0, hM2, rfl⟩
  go_wp2_with (fail)
  rw [HS.out]
  have HBs : Hid (Boxed (w.alloc (.cells #[.int .u64 (l : Int)] 90)) w.heap.size 90 (.int .u64 (l : Int))) := Lib.hid (Boxed.new w 90 _)
  have HBW : Hid (Below w.heap.size w (w.alloc (.cells #[.int .u64 (l : Int)] 90))) := Lib.hid (bl_alloc (Below.refl _ _) _)
  have HRv : Hid (RowI (w.alloc (.cells #[.int .u64 (l : Int)] 90)) b n z0) := Lib.hid (HZ.out.below HBW.out)
  generalize w.alloc (.cells #[.int .u64 (l : Int)] 90) = v at *
  have hbP : Hid (b < w.heap.size) := Lib.hid HZ.out.1
  generalize hPe : w.heap.size = P at *
  have HPe := Lib.hid hPe
  clear hPe
  go_loopw [9] (fun vi wr => ∃ (t R : Nat) (z : Nat → Int), vi = .int .i64 ((s0 + t : Nat) : Int) ∧ t ≤ 3 ∧ RowI wr b n z ∧ Sw a m z0 z ∧ Boxed wr P 90 (.int .u64 (R : Int)) ∧ R < 18446744073709551616 ∧ Kw (fun x => x = b ∨ x = P) v wr) (fun vi _ => s0 + 3 - (intOf vi).toNat)
  case atStart => exact ⟨0, l, z0, rfl, by omega, HRv.out, .refl, HBs.out, by omega, Kw.refl _ _⟩
  case round =>
    obtain ⟨t, R, z, rfl, ht, hr, hp, hbx, hR, hk⟩ := hrel
    have HR := Lib.hid hr
    have HP := Lib.hid hp
    have HBr := Lib.hid hbx
    have HK := Lib.hid hk
    clear hr hp hbx hk
    by_cases ht3 : t < 3
    · go_wp2_with (fail)
      refine (next_any P R hR wr HBr.out.cell HBr.out.frozen).mono ?_
      rintro e w2 ⟨Y, rfl, lY, hw2⟩
      obtain ⟨O, hO⟩ : ∃ O : Nat, O = Y &&& (M - 1) := ⟨_, rfl⟩
      have lO : O ≤ M - 1 := by rw [hO]; exact Nat.and_le_right
      have eAnd : bits .and .u64 (Y : Int) ((M : Int) - 1) = (O : Int) := by
        rw [show ((M : Int) - 1) = ((M - 1 : Nat) : Int) by omega, bits_and_u64_nat _ _ lY (by omega), hO]
      clear hO
      have hne : ¬ b = P := by
        have h1 := hbP.out
        omega
      have HR2 : Hid (RowI w2 b n z) := Lib.hid (by
        rw [hw2]
        exact HR.out.kwS (S := fun x => x = P) hne (((Kw.refl (fun x => x = P) wr).setCell (p := ⟨P, 0, none⟩) rfl _).drewN 3))
      have HK2 : Hid (Kw (fun x => x = b ∨ x = P) v w2) := Lib.hid (by
        rw [hw2]
        exact (HK.out.setCell (p := ⟨P, 0, none⟩) (Or.inr rfl) _).drewN 3)
      have HB2 : Hid (Boxed w2 P 90 (.int .u64 (Y : Int))) := Lib.hid (by
        rw [hw2]
        exact HBr.out.set (.int .u64 (Y : Int)))
      clear hw2
      have ei0 : (0 : Int) ≤ (s0 : Int) + (t : Int) := by omega
      have ei1 : (s0 : Int) + (t : Int) < (n : Int) := by omega
      have ein : ((s0 : Int) + (t : Int)).toNat = s0 + t := by omega
      by_cases hlO : l ≤ O
      · have hlOi : (l : Int) ≤ (O : Int) := by omega
        have eo0 : (0 : Int) ≤ (a : Int) + ((O : Int) - (l : Int)) := by omega
        have eo1 : (a : Int) + ((O : Int) - (l : Int)) < (n : Int) := by omega
        have eon : ((a : Int) + ((O : Int) - (l : Int))).toNat = a + (O - l) := by omega
        by_cases hEq : s0 + t = a + (O - l)
        · have hEq0 := hEq
          obtain ⟨sa0, sf0⟩ := HR2.out.2 (a + (O - l)) (by omega)
          have sbw := HR2.out.1
          obtain ⟨sx, hsx⟩ : ∃ x, z (a + (O - l)) = x := ⟨_, rfl⟩
          rw [hsx] at sa0
          have HSX := Lib.hid hsx
          clear hsx
          go_wp2_with (fail)
          go_region
          have HR3 : Hid (RowI (((w2.setCell ⟨b, a + (O - l), none⟩ (.int .u64 sx)).setCell ⟨b, a + (O - l), none⟩ (.int .u64 sx)).drew) b n (sw2 z (a + (O - l)) (a + (O - l)))) := Lib.hid (by
            have h := HR2.out.sw2 (i := a + (O - l)) (j := a + (O - l)) (by omega) (by omega)
            rw [HSX.out] at h
            exact h)
          have HK3 : Hid (Kw (fun x => x = b ∨ x = P) v (((w2.setCell ⟨b, a + (O - l), none⟩ (.int .u64 sx)).setCell ⟨b, a + (O - l), none⟩ (.int .u64 sx)).drew)) := Lib.hid (((HK2.out.setCell (p := ⟨b, a + (O - l), none⟩) (Or.inl rfl) _).setCell (p := ⟨b, a + (O - l), none⟩) (Or.inl rfl) _).drew)
          have HP3 : Hid (Sw a m z0 (sw2 z (a + (O - l)) (a + (O - l)))) := Lib.hid (.step (a + (O - l)) (a + (O - l)) (by omega) (by omega) HP.out)
          have HB3 : Hid (Boxed (((w2.setCell ⟨b, a + (O - l), none⟩ (.int .u64 sx)).setCell ⟨b, a + (O - l), none⟩ (.int .u64 sx)).drew) P 90 (.int .u64 (Y : Int))) := Lib.hid (((((Kw.refl (fun x => x = b) w2).setCell (p := ⟨b, _, none⟩) rfl _).setCell (p := ⟨b, _, none⟩) rfl _).drew.block P HB2.out.lt (fun h => hne h.symm)).trans HB2.out)
          clear sa0 sf0 sbw
          generalize (((w2.setCell ⟨b, a + (O - l), none⟩ (.int .u64 sx)).setCell ⟨b, a + (O - l), none⟩ (.int .u64 sx)).drew) = w3 at *
          all_goals go_wp2_with (fail)
          go_roundw
          case rel => exact ⟨t + 1, Y, _, by first | rfl | (push_cast; rfl) | (congr 1; omega), by omega, HR3.out, HP3.out, HB3.out, lY, HK3.out⟩
          case measure => simp [intOf]; omega
        · obtain ⟨sa0, sf0⟩ := HR2.out.2 (s0 + t) (by omega)
          obtain ⟨sa1, sf1⟩ := HR2.out.2 (a + (O - l)) (by omega)
          have sbw := HR2.out.1
          obtain ⟨sx, hsx⟩ : ∃ x, z (s0 + t) = x := ⟨_, rfl⟩
          obtain ⟨sy, hsy⟩ : ∃ y, z (a + (O - l)) = y := ⟨_, rfl⟩
          rw [hsx] at sa0
          rw [hsy] at sa1
          have HSX := Lib.hid hsx
          have HSY := Lib.hid hsy
          clear hsx hsy
          go_wp2_with (fail)
          go_region
          have HR3 : Hid (RowI (((w2.setCell ⟨b, s0 + t, none⟩ (.int .u64 sy)).setCell ⟨b, a + (O - l), none⟩ (.int .u64 sx)).drew) b n (sw2 z (s0 + t) (a + (O - l)))) := Lib.hid (by
            have h := HR2.out.sw2 (i := s0 + t) (j := a + (O - l)) (by omega) (by omega)
            rw [HSX.out, HSY.out] at h
            exact h)
          have HK3 : Hid (Kw (fun x => x = b ∨ x = P) v (((w2.setCell ⟨b, s0 + t, none⟩ (.int .u64 sy)).setCell ⟨b, a + (O - l), none⟩ (.int .u64 sx)).drew)) := Lib.hid (((HK2.out.setCell (p := ⟨b, s0 + t, none⟩) (Or.inl rfl) _).setCell (p := ⟨b, a + (O - l), none⟩) (Or.inl rfl) _).drew)
          have HP3 : Hid (Sw a m z0 (sw2 z (s0 + t) (a + (O - l)))) := Lib.hid (.step (s0 + t) (a + (O - l)) (by omega) (by omega) HP.out)
          have HB3 : Hid (Boxed (((w2.setCell ⟨b, s0 + t, none⟩ (.int .u64 sy)).setCell ⟨b, a + (O - l), none⟩ (.int .u64 sx)).drew) P 90 (.int .u64 (Y : Int))) := Lib.hid (((((Kw.refl (fun x => x = b) w2).setCell (p := ⟨b, _, none⟩) rfl _).setCell (p := ⟨b, _, none⟩) rfl _).drew.block P HB2.out.lt (fun h => hne h.symm)).trans HB2.out)
          clear sa0 sf0 sa1 sf1 sbw
          generalize (((w2.setCell ⟨b, s0 + t, none⟩ (.int .u64 sy)).setCell ⟨b, a + (O - l), none⟩ (.int .u64 sx)).drew) = w3 at *
          all_goals go_wp2_with (fail)
          go_roundw
          case rel => exact ⟨t + 1, Y, _, by first | rfl | (push_cast; rfl) | (congr 1; omega), by omega, HR3.out, HP3.out, HB3.out, lY, HK3.out⟩
          case measure => simp [intOf]; omega
      · have hlOi : (O : Int) < (l : Int) := by omega
        have eo0 : (0 : Int) ≤ (a : Int) + (O : Int) := by omega
        have eo1 : (a : Int) + (O : Int) < (n : Int) := by omega
        have eon : ((a : Int) + (O : Int)).toNat = a + O := by omega
        by_cases hEq : s0 + t = a + O
        · have hEq0 := hEq
          obtain ⟨sa0, sf0⟩ := HR2.out.2 (a + O) (by omega)
          have sbw := HR2.out.1
          obtain ⟨sx, hsx⟩ : ∃ x, z (a + O) = x := ⟨_, rfl⟩
          rw [hsx] at sa0
          have HSX := Lib.hid hsx
          clear hsx
          go_wp2_with (fail)
          go_region
          have HR3 : Hid (RowI (((w2.setCell ⟨b, a + O, none⟩ (.int .u64 sx)).setCell ⟨b, a + O, none⟩ (.int .u64 sx)).drew) b n (sw2 z (a + O) (a + O))) := Lib.hid (by
            have h := HR2.out.sw2 (i := a + O) (j := a + O) (by omega) (by omega)
            rw [HSX.out] at h
            exact h)
          have HK3 : Hid (Kw (fun x => x = b ∨ x = P) v (((w2.setCell ⟨b, a + O, none⟩ (.int .u64 sx)).setCell ⟨b, a + O, none⟩ (.int .u64 sx)).drew)) := Lib.hid (((HK2.out.setCell (p := ⟨b, a + O, none⟩) (Or.inl rfl) _).setCell (p := ⟨b, a + O, none⟩) (Or.inl rfl) _).drew)
          have HP3 : Hid (Sw a m z0 (sw2 z (a + O) (a + O))) := Lib.hid (.step (a + O) (a + O) (by omega) (by omega) HP.out)
          have HB3 : Hid (Boxed (((w2.setCell ⟨b, a + O, none⟩ (.int .u64 sx)).setCell ⟨b, a + O, none⟩ (.int .u64 sx)).drew) P 90 (.int .u64 (Y : Int))) := Lib.hid (((((Kw.refl (fun x => x = b) w2).setCell (p := ⟨b, _, none⟩) rfl _).setCell (p := ⟨b, _, none⟩) rfl _).drew.block P HB2.out.lt (fun h => hne h.symm)).trans HB2.out)
          clear sa0 sf0 sbw
          generalize (((w2.setCell ⟨b, a + O, none⟩ (.int .u64 sx)).setCell ⟨b, a + O, none⟩ (.int .u64 sx)).drew) = w3 at *
          all_goals go_wp2_with (fail)
          go_roundw
          case rel => exact ⟨t + 1, Y, _, by first | rfl | (push_cast; rfl) | (congr 1; omega), by omega, HR3.out, HP3.out, HB3.out, lY, HK3.out⟩
          case measure => simp [intOf]; omega
        · obtain ⟨sa0, sf0⟩ := HR2.out.2 (s0 + t) (by omega)
          obtain ⟨sa1, sf1⟩ := HR2.out.2 (a + O) (by omega)
          have sbw := HR2.out.1
          obtain ⟨sx, hsx⟩ : ∃ x, z (s0 + t) = x := ⟨_, rfl⟩
          obtain ⟨sy, hsy⟩ : ∃ y, z (a + O) = y := ⟨_, rfl⟩
          rw [hsx] at sa0
          rw [hsy] at sa1
          have HSX := Lib.hid hsx
          have HSY := Lib.hid hsy
          clear hsx hsy
          go_wp2_with (fail)
          go_region
          have HR3 : Hid (RowI (((w2.setCell ⟨b, s0 + t, none⟩ (.int .u64 sy)).setCell ⟨b, a + O, none⟩ (.int .u64 sx)).drew) b n (sw2 z (s0 + t) (a + O))) := Lib.hid (by
            have h := HR2.out.sw2 (i := s0 + t) (j := a + O) (by omega) (by omega)
            rw [HSX.out, HSY.out] at h
            exact h)
          have HK3 : Hid (Kw (fun x => x = b ∨ x = P) v (((w2.setCell ⟨b, s0 + t, none⟩ (.int .u64 sy)).setCell ⟨b, a + O, none⟩ (.int .u64 sx)).drew)) := Lib.hid (((HK2.out.setCell (p := ⟨b, s0 + t, none⟩) (Or.inl rfl) _).setCell (p := ⟨b, a + O, none⟩) (Or.inl rfl) _).drew)
          have HP3 : Hid (Sw a m z0 (sw2 z (s0 + t) (a + O))) := Lib.hid (.step (s0 + t) (a + O) (by omega) (by omega) HP.out)
          have HB3 : Hid (Boxed (((w2.setCell ⟨b, s0 + t, none⟩ (.int .u64 sy)).setCell ⟨b, a + O, none⟩ (.int .u64 sx)).drew) P 90 (.int .u64 (Y : Int))) := Lib.hid (((((Kw.refl (fun x => x = b) w2).setCell (p := ⟨b, _, none⟩) rfl _).setCell (p := ⟨b, _, none⟩) rfl _).drew.block P HB2.out.lt (fun h => hne h.symm)).trans HB2.out)
          clear sa0 sf0 sa1 sf1 sbw
          generalize (((w2.setCell ⟨b, s0 + t, none⟩ (.int .u64 sy)).setCell ⟨b, a + O, none⟩ (.int .u64 sx)).drew) = w3 at *
          all_goals go_wp2_with (fail)
          go_roundw
          case rel => exact ⟨t + 1, Y, _, by first | rfl | (push_cast; rfl) | (congr 1; omega), by omega, HR3.out, HP3.out, HB3.out, lY, HK3.out⟩
          case measure => simp [intOf]; omega
    · obtain rfl : t = 3 := by omega
      go_wp2_with (fail)
      go_end0
      refine ⟨rfl, ⟨z, HR.out, HP.out⟩, ?_⟩
      have h1 : Kw (fun x => x = b ∨ x = P) w wr := (Kw.ofBelow (by rw [HPe.out]; exact HBW.out)).trans HK.out
      refine h1.mono fun x hx hs => ?_
      rcases hs with h | h
      · exact h
      · have h2 := HPe.out
        omega
end Go.Proofs.Ytmalcekbhnkfgaa
