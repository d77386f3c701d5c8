/- Rows that are turned by swaps alone; parts that are in order. Conditions: as each theorem states them. -/
import Derived.Test.YtmalcekbhnkfgaaB2
namespace Go.Proofs.Ytmalcekbhnkfgaa
open Go.RowKit Go.Maps
set_option linter.unusedVariables false
set_option linter.unusedSimpArgs false

/-- The elements at i and at j change their places. -/
def sw2 (z : Nat → Int) (i j : Nat) : Nat → Int := fun k => if k = j then z i else if k = i then z j else z k
theorem sw2_left (z : Nat → Int) (i j : Nat) : sw2 z i j i = z j := by
  unfold sw2
  by_cases h : i = j
  · rw [if_pos h, h]
  · rw [if_neg h, if_pos rfl]
theorem sw2_right (z : Nat → Int) (i j : Nat) : sw2 z i j j = z i := by unfold sw2; rw [if_pos rfl]
theorem sw2_other (z : Nat → Int) {i j k : Nat} (h1 : k ≠ i) (h2 : k ≠ j) : sw2 z i j k = z k := by unfold sw2; rw [if_neg h2, if_neg h1]
theorem RowI.sw2 {w : World} {b n : Nat} {z : Nat → Int} (h : RowI w b n z) {i j : Nat} (hi : i < n) (hj : j < n) : RowI ((w.setCell ⟨b, i, none⟩ (.int .u64 (z j))).setCell ⟨b, j, none⟩ (.int .u64 (z i))) b n (sw2 z i j) := by
  have h1 := (h.set hi (z j)).set hj (z i)
  exact h1
/-- From z by swaps within [a, b). -/
inductive Sw (a b : Nat) (z : Nat → Int) : (Nat → Int) → Prop
  | refl : Sw a b z z
  | step {z' : Nat → Int} (i j : Nat) (hi : a ≤ i ∧ i < b) (hj : a ≤ j ∧ j < b) (h : Sw a b z z') : Sw a b z (sw2 z' i j)
theorem Sw.trans {a b : Nat} {x y z : Nat → Int} (h : Sw a b x y) (k : Sw a b y z) : Sw a b x z := by
  induction k with
  | refl => exact h
  | step i j hi hj _ ih => exact .step i j hi hj ih
theorem Sw.mono {a b a' b' : Nat} {x y : Nat → Int} (h : Sw a b x y) (ha : a' ≤ a) (hb : b ≤ b') : Sw a' b' x y := by
  induction h with
  | refl => exact .refl
  | step i j hi hj _ ih => exact .step i j (by omega) (by omega) ih
theorem Sw.out {a b : Nat} {x y : Nat → Int} (h : Sw a b x y) {k : Nat} (hk : k < a ∨ b ≤ k) : y k = x k := by
  induction h with
  | refl => rfl
  | step i j hi hj _ ih => rw [sw2_other _ (by omega) (by omega), ih]
theorem Sw.all {a b : Nat} {x y : Nat → Int} (h : Sw a b x y) {P : Int → Prop} (hP : ∀ k, a ≤ k → k < b → P (x k)) : ∀ k, a ≤ k → k < b → P (y k) := by
  induction h with
  | refl => exact hP
  | step i j hi hj _ ih =>
    intro k h1 h2
    unfold Proofs.Ytmalcekbhnkfgaa.sw2
    split
    · exact ih i hi.1 hi.2
    · split
      · exact ih j hj.1 hj.2
      · exact ih k h1 h2
def sg2 (i j : Nat) : Nat → Nat := fun k => if k = j then i else if k = i then j else k
theorem sg2_sg2 (i j k : Nat) : sg2 i j (sg2 i j k) = k := by
  unfold sg2
  by_cases h1 : k = j
  · rw [if_pos h1]
    by_cases h2 : i = j
    · rw [if_pos h2]; omega
    · rw [if_neg h2, if_pos rfl]; omega
  · rw [if_neg h1]
    by_cases h2 : k = i
    · rw [if_pos h2, if_pos rfl]; omega
    · rw [if_neg h2, if_neg h1, if_neg h2]
theorem sw2_perm (z : Nat → Int) {i j n : Nat} (hi : i < n) (hj : j < n) : ((List.range n).map (sw2 z i j)).Perm ((List.range n).map z) := by
  have e : (List.range n).map (sw2 z i j) = ((List.range n).map (sg2 i j)).map z := by
    rw [List.map_map]
    apply List.map_congr_left
    intro k _
    show sw2 z i j k = z (sg2 i j k)
    unfold sw2 sg2
    by_cases h1 : k = j
    · rw [if_pos h1, if_pos h1]
    · rw [if_neg h1, if_neg h1]
      by_cases h2 : k = i
      · rw [if_pos h2, if_pos h2]
      · rw [if_neg h2, if_neg h2]
  rw [e]
  refine List.Perm.map z ?_
  have hinj : ∀ a b, sg2 i j a = sg2 i j b → a = b := fun a b h => by rw [← sg2_sg2 i j a, h, sg2_sg2]
  have hlt : ∀ a, a < n → sg2 i j a < n := fun a ha => by unfold sg2; split; exact hi; split; exact hj; exact ha
  refine (List.perm_ext_iff_of_nodup ?_ List.nodup_range).2 fun a => ?_
  · exact List.Pairwise.map _ (fun a b h e => h (hinj a b e)) List.nodup_range
  · rw [List.mem_map, List.mem_range]
    constructor
    · rintro ⟨k, hk, rfl⟩
      exact hlt k (List.mem_range.1 hk)
    · intro ha
      exact ⟨sg2 i j a, List.mem_range.2 (hlt a ha), sg2_sg2 i j a⟩
theorem Sw.perm {a b : Nat} {x y : Nat → Int} (h : Sw a b x y) {n : Nat} (hn : b ≤ n) : ((List.range n).map y).Perm ((List.range n).map x) := by
  induction h with
  | refl => exact List.Perm.refl _
  | step i j hi hj _ ih => exact (sw2_perm _ (by omega) (by omega)).trans ih
theorem swp_sw2 (z : Nat → Int) (j : Nat) : swp z j = sw2 z j (j - 1) := by
  funext k
  unfold swp sw2
  by_cases h1 : k = j
  · by_cases h2 : k = j - 1
    · rw [if_pos h1, if_pos h2, ← h2, ← h1]
    · rw [if_pos h1, if_neg h2, if_pos h1]
  · rw [if_neg h1]
    by_cases h2 : k = j - 1
    · rw [if_pos h2, if_pos h2]
    · rw [if_neg h2, if_neg h2, if_neg h1]
/-- The part [a, b) is in order. -/
def Srt (z : Nat → Int) (a b : Nat) : Prop := ∀ p q, a ≤ p → p < q → q < b → z p ≤ z q
/-- The part [a, i] is in order, but for the one at j. -/
def InsA (z : Nat → Int) (a i j : Nat) : Prop := ∀ p q, a ≤ p → p < q → q ≤ i → q ≠ j → z p ≤ z q
theorem Srt.ins {z : Nat → Int} {a i : Nat} (h : Srt z a i) : InsA z a i i := fun p q h0 h1 h2 h3 => h p q h0 h1 (by omega)
theorem InsA.done0 {z : Nat → Int} {a i : Nat} (h : InsA z a i a) : Srt z a (i + 1) := fun p q h0 h1 h2 => h p q h0 h1 (by omega) (by omega)
theorem InsA.done {z : Nat → Int} {a i j : Nat} (h : InsA z a i j) (hj : a < j) (hji : j ≤ i) (hle : ¬ z j < z (j - 1)) : Srt z a (i + 1) := fun p q h0 h1 h2 => by
  by_cases hq : q = j
  · subst hq
    by_cases hp : p = q - 1
    · subst hp; omega
    · have := h p (q - 1) h0 (by omega) (by omega) (by omega)
      omega
  · exact h p q h0 h1 (by omega) hq
theorem InsA.swap {z : Nat → Int} {a i j : Nat} (h : InsA z a i j) (hj : a < j) (hji : j ≤ i) (hlt : z j < z (j - 1)) : InsA (sw2 z j (j - 1)) a i (j - 1) := fun p q h0 h1 h2 h3 => by
  rw [← swp_sw2]
  unfold swp
  by_cases hq : q = j
  · subst hq
    rw [if_pos rfl, if_neg (by omega : ¬ p = q)]
    split
    · omega
    · exact h p (q - 1) h0 (by omega) (by omega) (by omega)
  · rw [if_neg hq, if_neg h3]
    split
    · exact h (j - 1) q (by omega) (by omega) h2 hq
    · split
      · exact h j q (by omega) (by omega) h2 hq
      · exact h p q h0 h1 h2 hq
theorem Srt.one (z : Nat → Int) (a b : Nat) (h : b ≤ a + 1) : Srt z a b := fun p q h0 h1 h2 => by omega
theorem RowI.kwK {w w' : World} {S : Nat → Prop} {b n : Nat} {z : Nat → Int} (h : RowI w b n z) (k : Kw S w w') (hS : ¬ S b) : RowI w' b n z :=
  ⟨Nat.lt_of_lt_of_le h.1 k.size, fun i hi => ⟨(k.cell h.1 hS).trans (h.2 i hi).1, (k.frozen h.1 hS).trans (h.2 i hi).2⟩⟩
end Go.Proofs.Ytmalcekbhnkfgaa
namespace Go.Proofs.Ytmalcekbhnkfgaa
open Go.RowKit Go.Maps
set_option linter.unusedVariables false
set_option linter.unusedSimpArgs false

set_option maxRecDepth 100000 in
set_option maxHeartbeats 4000000 in
theorem insert_part (b n cap a m : Nat) (z0 : Nat → Int) (w : World) (hz : RowI w b n z0) (hn : n ≤ 1000000) (hnc : n ≤ cap) (hmn : m ≤ n) (ham : a ≤ m) :
    Calls Try.prog 52 #[.slice (some ⟨b, 0, none⟩) n cap, .int .i64 a, .int .i64 m] w fun e w' => e = .returned (.tuple #[]) ∧ (∃ z, RowI w' b n z ∧ Sw a m z0 z ∧ Srt z a m) ∧ Kw (fun x => x = b) w w' := by
  have HZ := Lib.hid hz
  have HL := Lib.hid less_u
  clear hz
  go_enter Try.func52, Try.ntmps52
  go_wp2_with (fail)
  go_loopw [6] (fun vi wr => ∃ (i : Nat) (z : Nat → Int), a + 1 ≤ i ∧ (i ≤ m ∨ i = a + 1) ∧ vi = .int .i64 i ∧ RowI wr b n z ∧ Sw a m z0 z ∧ Srt z a i ∧ Kw (fun x => x = b) w wr) (fun i _ => n - (intOf i).toNat)
  case atStart => exact ⟨a + 1, z0, Nat.le_refl _, .inr rfl, by first | rfl | (push_cast; rfl) | go_num, HZ.out, .refl, Srt.one _ _ _ (Nat.le_refl _), Kw.refl _ _⟩
  case round =>
    obtain ⟨i, z, hi1, hin, rfl, hr, hp, ho, hk⟩ := hrel
    have HR := Lib.hid hr
    have HP := Lib.hid hp
    have HO := Lib.hid ho
    have HK := Lib.hid hk
    clear hr hp ho hk
    by_cases hi : i < m
    · have hii : (i : Int) < (m : Int) := by omega
      go_wp2_with (fail)
      go_loopw [7] (fun vj wr => ∃ (j : Nat) (z : Nat → Int), a ≤ j ∧ j ≤ i ∧ vj = .int .i64 j ∧ RowI wr b n z ∧ Sw a m z0 z ∧ InsA z a i j ∧ Kw (fun x => x = b) w wr) (fun j _ => (intOf j).toNat)
      case atStart => exact ⟨i, z, by omega, Nat.le_refl _, rfl, HR.out, HP.out, HO.out.ins, HK.out⟩
      case round =>
        obtain ⟨j, z, haj, hji, rfl, hr, hp, ho, hk⟩ := hrel
        have HR := Lib.hid hr
        have HP := Lib.hid hp
        have HO := Lib.hid ho
        have HK := Lib.hid hk
        by_cases hj0 : j = a
        · have H0 : Hid (decide ((a : Int) < (j : Int)) = false) := Lib.hid (decide_eq_false (by omega))
          have H0n : Hid (decide (a < j) = false) := Lib.hid (decide_eq_false (by omega))
          have HE : Hid (Srt z a (i + 1)) := Lib.hid (by rw [hj0] at ho; exact ho.done0)
          clear hr hp ho hk hj0
          go_wp2_with (fail)
          refine wp_region_ext (by kernel_rfl) (by kernel_rfl) ?_
          repeat (first | rw [H0.out] | rw [H0n.out] | go_big_quiet_step (fail))
          refine wpQuiet_nil ?_
          rintro w2 ⟨⟨_, hb2⟩, rfl⟩
          have HR2 : Hid (RowI w2 b n z) := Lib.hid (HR.out.below hb2)
          have HK2 := Lib.hid (HK.out.trans (Kw.ofBelow hb2))
          clear hb2
          go_wp2_with (fail)
          go_roundw
          case rel => exact ⟨i + 1, z, by omega, by omega, by first | rfl | (push_cast; rfl) | go_num, HR2.out, HP.out, HE.out, HK2.out⟩
          case measure => simp [intOf]; omega
        · have haj' : a < j := by omega
          have H0 : Hid (decide ((a : Int) < (j : Int)) = true) := Lib.hid (decide_eq_true (by omega))
          have H0n : Hid (decide (a < j) = true) := Lib.hid (decide_eq_true (by omega))
          have hjj0 : (0 : Int) ≤ (j : Int) := by omega
          have hjj1 : (j : Int) < (n : Int) := by omega
          have hpj0 : (0 : Int) ≤ (j : Int) - 1 := by omega
          have hpj1 : (j : Int) - 1 < (n : Int) := by omega
          have hpjn : ((j : Int) - 1).toNat = j - 1 := by omega
          obtain ⟨a0, f0⟩ := hr.2 j (by omega)
          obtain ⟨a1, f1⟩ := hr.2 (j - 1) (by omega)
          have hbw := hr.1
          obtain ⟨x, hx⟩ : ∃ x, z j = x := ⟨_, rfl⟩
          obtain ⟨y, hy⟩ : ∃ y, z (j - 1) = y := ⟨_, rfl⟩
          rw [hx] at a0
          rw [hy] at a1
          have HX := Lib.hid hx
          have HY := Lib.hid hy
          have HJ0 := Lib.hid haj'
          have e0 := ext_cell a0
          have e1 := ext_cell a1
          clear hr hp ho hk hx hy hj0 haj'
          by_cases hlt : x < y
          · have hd : decide (x < y) = true := decide_eq_true hlt
            have HLS : Hid (∀ w, Calls Try.prog 58 #[.int .u64 x, .int .u64 y] w fun e w' => e = .returned (.bool true) ∧ w = w') := Lib.hid (fun w => by have h := HL.out x y w; rwa [hd] at h)
            have HLT := Lib.hid hlt
            clear hlt hd
            go_wp2_with (fail)
            refine wp_region_ext (by kernel_rfl) (by kernel_rfl) ?_
            repeat (first | rw [H0.out] | rw [H0n.out] | go_big_quiet_step ((go_at_call 58; exact ext_calls_same (HLS.out _))))
            refine wpQuiet_nil ?_
            rintro w2 ⟨⟨_, hb2⟩, rfl⟩
            have hs2 := hb2.size
            have HR2 : Hid (RowI w2 b n z) := Lib.hid (HR.out.below hb2)
            have HK2 := Lib.hid (HK.out.trans (Kw.ofBelow hb2))
            obtain ⟨a0, f0⟩ := HR2.out.2 j (by omega)
            obtain ⟨a1, f1⟩ := HR2.out.2 (j - 1) (by omega)
            rw [HX.out] at a0
            rw [HY.out] at a1
            have hbw2 : b < w2.heap.size := by omega
            clear hb2 e0 e1
            go_wp2_with (fail)
            go_region
            have hj' : a < j := HJ0.out
            have HR3 : Hid (RowI (((w2.setCell ⟨b, j, none⟩ (.int .u64 y)).setCell ⟨b, j - 1, none⟩ (.int .u64 x)).drew) b n (sw2 z j (j - 1))) := Lib.hid (by
              have h := HR2.out.sw2 (i := j) (j := j - 1) (by omega) (by omega)
              rw [HX.out, HY.out] at h
              exact h)
            have HK3 : Hid (Kw (fun x => x = b) w (((w2.setCell ⟨b, j, none⟩ (.int .u64 y)).setCell ⟨b, j - 1, none⟩ (.int .u64 x)).drew)) := Lib.hid (((HK2.out.setCell (p := ⟨b, j, none⟩) rfl _).setCell (p := ⟨b, j - 1, none⟩) rfl _).drew)
            have HP3 : Hid (Sw a m z0 (sw2 z j (j - 1))) := Lib.hid (.step j (j - 1) (by omega) (by omega) HP.out)
            have HI3 : Hid (InsA (sw2 z j (j - 1)) a i (j - 1)) := Lib.hid (HO.out.swap hj' hji (by rw [HX.out, HY.out]; exact HLT.out))
            have hje : ((j - 1 : Nat) : Int) = (j : Int) - 1 := by omega
            have HJE := Lib.hid hje
            clear hje
            go_wp2_with (fail)
            go_roundw
            case rel => exact ⟨j - 1, sw2 z j (j - 1), by omega, by omega, by rw [HJE.out], HR3.out, HP3.out, HI3.out, HK3.out⟩
            case measure => simp [intOf]; omega
          · have hd : decide (x < y) = false := decide_eq_false hlt
            have HLS : Hid (∀ w, Calls Try.prog 58 #[.int .u64 x, .int .u64 y] w fun e w' => e = .returned (.bool false) ∧ w = w') := Lib.hid (fun w => by have h := HL.out x y w; rwa [hd] at h)
            have HE : Hid (Srt z a (i + 1)) := Lib.hid (HO.out.done HJ0.out hji (by rw [HX.out, HY.out]; exact hlt))
            clear hlt hd
            go_wp2_with (fail)
            refine wp_region_ext (by kernel_rfl) (by kernel_rfl) ?_
            repeat (first | rw [H0.out] | rw [H0n.out] | go_big_quiet_step ((go_at_call 58; exact ext_calls_same (HLS.out _))))
            refine wpQuiet_nil ?_
            rintro w2 ⟨⟨_, hb2⟩, rfl⟩
            have HR2 : Hid (RowI w2 b n z) := Lib.hid (HR.out.below hb2)
            have HK2 := Lib.hid (HK.out.trans (Kw.ofBelow hb2))
            clear hb2 e0 e1
            go_wp2_with (fail)
            go_roundw
            case rel => exact ⟨i + 1, z, by omega, by omega, by first | rfl | (push_cast; rfl) | go_num, HR2.out, HP.out, HE.out, HK2.out⟩
            case measure => simp [intOf]; omega
    · have hirr : ¬ (i : Int) < (m : Int) := by omega
      have HE : Hid (Srt z a m) := Lib.hid (fun p q h0 h1 h2 => HO.out p q h0 h1 (by omega))
      go_wp2_with (fail)
      go_end0
      exact ⟨rfl, ⟨z, HR.out, HP.out, HE.out⟩, HK.out⟩
end Go.Proofs.Ytmalcekbhnkfgaa
namespace Go.Proofs.Ytmalcekbhnkfgaa
open Go.RowKit Go.Maps
set_option linter.unusedVariables false
set_option linter.unusedSimpArgs false

set_option maxRecDepth 100000 in
set_option maxHeartbeats 4000000 in
theorem reverse_part (b n cap a m : Nat) (z0 : Nat → Int) (w : World) (hz : RowI w b n z0) (hn : n ≤ 1000000) (hnc : n ≤ cap) (hmn : m ≤ n) (ham : a < m) :
    Calls Try.prog 56 #[.slice (some ⟨b, 0, none⟩) n cap, .int .i64 a, .int .i64 m] w fun e w' => e = .returned (.tuple #[]) ∧ (∃ z, RowI w' b n z ∧ Sw a m z0 z) ∧ Kw (fun x => x = b) w w' := by
  have HZ := Lib.hid hz
  clear hz
  have hm1 : ((m - 1 : Nat) : Int) = (m : Int) - 1 := by omega
  go_enter Try.func56, Try.ntmps56
  go_wp2_with (fail)
  go_loopw [6, 7] (fun vi vj wr => ∃ (i j : Nat) (z : Nat → Int), a ≤ i ∧ a ≤ j ∧ j < m ∧ vi = .int .i64 i ∧ vj = .int .i64 j ∧ RowI wr b n z ∧ Sw a m z0 z ∧ Kw (fun x => x = b) w wr) (fun i j _ => (intOf j - intOf i).toNat)
  case atStart => exact ⟨a, m - 1, z0, Nat.le_refl _, by omega, by omega, rfl, by rw [hm1], HZ.out, .refl, Kw.refl _ _⟩
  case round =>
    obtain ⟨i, j, z, hai, haj, hjm, rfl, rfl, hr, hp, hk⟩ := hrel
    have HR := Lib.hid hr
    have HP := Lib.hid hp
    have HK := Lib.hid hk
    clear hr hp hk hm1
    by_cases hij : i < j
    · have h1 : (i : Int) < (j : Int) := by omega
      have h2 : (0 : Int) ≤ (i : Int) := by omega
      have h3 : (0 : Int) ≤ (j : Int) := by omega
      have h4 : (i : Int) < (n : Int) := by omega
      have h5 : (j : Int) < (n : Int) := by omega
      obtain ⟨sa0, sf0⟩ := HR.out.2 (i) (by omega)
      obtain ⟨sa1, sf1⟩ := HR.out.2 (j) (by omega)
      have sbw := HR.out.1
      obtain ⟨sx, hsx⟩ : ∃ x, z (i) = x := ⟨_, rfl⟩
      obtain ⟨sy, hsy⟩ : ∃ y, z (j) = y := ⟨_, rfl⟩
      rw [hsx] at sa0
      rw [hsy] at sa1
      have HSX := Lib.hid hsx
      have HSY := Lib.hid hsy
      clear hsx hsy
      go_wp2_with (fail)
      go_region
      have HR3 : Hid (RowI (((wr.setCell ⟨b, i, none⟩ (.int .u64 sy)).setCell ⟨b, j, none⟩ (.int .u64 sx)).drew) b n (sw2 z (i) (j))) := Lib.hid (by
        have h := HR.out.sw2 (i := i) (j := j) (by omega) (by omega)
        rw [HSX.out, HSY.out] at h
        exact h)
      have HK3 : Hid (Kw (fun x => x = b) w (((wr.setCell ⟨b, i, none⟩ (.int .u64 sy)).setCell ⟨b, j, none⟩ (.int .u64 sx)).drew)) := Lib.hid (((HK.out.setCell (p := ⟨b, i, none⟩) rfl _).setCell (p := ⟨b, j, none⟩) rfl _).drew)
      have HP3 : Hid (Sw a m z0 (sw2 z (i) (j))) := Lib.hid (.step (i) (j) (by omega) (by omega) HP.out)
      clear sa0 sf0 sa1 sf1 sbw
      generalize (((wr.setCell ⟨b, i, none⟩ (.int .u64 sy)).setCell ⟨b, j, none⟩ (.int .u64 sx)).drew) = w3 at *
      have hje : ((j - 1 : Nat) : Int) = (j : Int) - 1 := by omega
      have HJE := Lib.hid hje
      clear hje
      go_wp2_with (fail)
      go_roundw
      case rel => exact ⟨i + 1, j - 1, _, by omega, by omega, by omega, by first | rfl | (push_cast; rfl) | go_num, by rw [HJE.out], HR3.out, HP3.out, HK3.out⟩
      case measure => simp [intOf]; omega
    · have h1 : ¬ (i : Int) < (j : Int) := by omega
      go_wp2_with (fail)
      go_end0
      exact ⟨rfl, ⟨z, HR.out, HP.out⟩, HK.out⟩
end Go.Proofs.Ytmalcekbhnkfgaa
