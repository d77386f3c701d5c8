/- Contract of the insertion sort of numbers. Conditions: as each theorem states them. -/
import Derived.Test.YtmalcekbhnkfgaaA8
namespace Go.Proofs.Ytmalcekbhnkfgaa
open Go.RowKit Go.Maps
set_option linter.unusedVariables false
set_option linter.unusedSimpArgs false

theorem nan_u (a : Int) (w : World) : Calls Try.prog 68 #[.int .u64 a] w fun e w' => e = .returned (.bool false) ∧ w = w' := by
  go_enter Try.func68, Try.ntmps68
  go_wp2
  go_ret
  exact ⟨rfl, rfl⟩
theorem less_u (a b : Int) (w : World) : Calls Try.prog 58 #[.int .u64 a, .int .u64 b] w fun e w' => e = .returned (.bool (decide (a < b))) ∧ w = w' := by
  have H := Lib.hid (fun x w => nan_u x w)
  go_enter Try.func58, Try.ntmps58
  go_wp2_with (go_at_call 68; refine (H.out _ _).mono ?_; rintro e w' ⟨rfl, rfl⟩)
  go_ret
  first | exact ⟨rfl, rfl⟩ | simp
/-- Block b holds n numbers. -/
def RowI (w : World) (b n : Nat) (z : Nat → Int) : Prop := b < w.heap.size ∧ ∀ i, i < n → w.cell? ⟨b, i, none⟩ = some (.int .u64 (z i)) ∧ w.frozen? ⟨b, i, none⟩ = false
theorem cell_other (w : World) (b k i : Nat) (v : Value) (h : k ≠ i) : (w.setCell ⟨b, k, none⟩ v).cell? ⟨b, i, none⟩ = w.cell? ⟨b, i, none⟩ := by
  have hne : (⟨b, k, none⟩ : Addr) ≠ ⟨b, i, none⟩ := by simp [h]
  exact World.cell?_setCell_other w _ _ _ hne
theorem RowI.set {w : World} {b n : Nat} {z : Nat → Int} (h : RowI w b n z) {k : Nat} (hk : k < n) (v : Int) : RowI (w.setCell ⟨b, k, none⟩ (.int .u64 v)) b n (fun i => if i = k then v else z i) := by
  refine ⟨by simp [World.setCell]; exact h.1, fun i hi => ⟨?_, ?_⟩⟩
  · by_cases hik : i = k
    · subst hik
      simp only [if_pos]
      exact World.cell?_setCell_same' _ _ _ (by rw [(h.2 i hi).1]; rfl)
    · simp only [if_neg hik]
      rw [cell_other w b k i _ (fun e => hik e.symm)]
      exact (h.2 i hi).1
  · rw [World.frozen?_setCell]
    exact (h.2 i hi).2
theorem RowI.below {w w' : World} {b n : Nat} {z : Nat → Int} (h : RowI w b n z) (k : Below w.heap.size w w') : RowI w' b n z :=
  ⟨Nat.lt_of_lt_of_le h.1 k.size, fun i hi => ⟨(k.cell (p := ⟨b, i, none⟩) h.1).trans (h.2 i hi).1, (k.frozen (p := ⟨b, i, none⟩) h.1).trans (h.2 i hi).2⟩⟩
/-- Two neighbours change their places. -/
def swp (z : Nat → Int) (j : Nat) : Nat → Int := fun i => if i = j then z (j - 1) else if i = j - 1 then z j else z i
theorem RowI.swap {w : World} {b n : Nat} {z : Nat → Int} (h : RowI w b n z) {j : Nat} (hj : j < n) (h0 : 0 < j) : RowI ((w.setCell ⟨b, j, none⟩ (.int .u64 (z (j - 1)))).setCell ⟨b, j - 1, none⟩ (.int .u64 (z j))) b n (swp z j) := by
  have h1 := (h.set hj (z (j - 1))).set (k := j - 1) (by omega) (z j)
  have e : (fun i => if i = j - 1 then z j else if i = j then z (j - 1) else z i) = swp z j := by
    funext i
    unfold swp
    by_cases hi : i = j
    · rw [if_neg (by omega), if_pos hi, if_pos hi]
    · rw [if_neg hi, if_neg hi]
  rw [e] at h1
  exact h1
def sg (j : Nat) : Nat → Nat := fun i => if i = j then j - 1 else if i = j - 1 then j else i
theorem swp_perm (z : Nat → Int) {j n : Nat} (hj : j < n) (h0 : 0 < j) : ((List.range n).map (swp z j)).Perm ((List.range n).map z) := by
  have e : (List.range n).map (swp z j) = ((List.range n).map (sg j)).map z := by
    rw [List.map_map]
    apply List.map_congr_left
    intro i _
    show swp z j i = z (sg j i)
    unfold swp sg
    by_cases h1 : i = j
    · rw [if_pos h1, if_pos h1]
    · rw [if_neg h1, if_neg h1]
      by_cases h2 : i = j - 1
      · rw [if_pos h2, if_pos h2]
      · rw [if_neg h2, if_neg h2]
  rw [e]
  refine List.Perm.map z ?_
  have hinj : ∀ a b, sg j a = sg j b → a = b := by
    intro a b h
    unfold sg at h
    split at h <;> split at h <;> (try split at h) <;> (try split at h) <;> omega
  refine (List.perm_ext_iff_of_nodup ?_ List.nodup_range).2 fun a => ?_
  · exact List.Pairwise.map _ (fun a b h e => h (hinj a b e)) List.nodup_range
  · rw [List.mem_map, List.mem_range]
    constructor
    · rintro ⟨i, hi, rfl⟩
      rw [List.mem_range] at hi
      unfold sg
      split
      · omega
      · split <;> omega
    · intro ha
      refine ⟨sg j a, List.mem_range.2 ?_, ?_⟩
      · unfold sg
        split
        · omega
        · split <;> omega
      · unfold sg
        split
        · rw [if_neg (by omega), if_pos (by omega)]; omega
        · split
          · rw [if_pos rfl]; omega
          · rfl
/-- The first i are in order. -/
def Ord (z : Nat → Int) (i : Nat) : Prop := ∀ p q, p < q → q < i → z p ≤ z q
/-- The first i + 1 are in order, but for the one at j. -/
def Ins (z : Nat → Int) (i j : Nat) : Prop := ∀ p q, p < q → q ≤ i → q ≠ j → z p ≤ z q
theorem Ord.ins {z : Nat → Int} {i : Nat} (h : Ord z i) : Ins z i i := fun p q h1 h2 h3 => h p q h1 (by omega)
theorem Ins.done0 {z : Nat → Int} {i : Nat} (h : Ins z i 0) : Ord z (i + 1) := fun p q h1 h2 => h p q h1 (by omega) (by omega)
theorem Ins.done {z : Nat → Int} {i j : Nat} (h : Ins z i j) (hj : 0 < j) (hji : j ≤ i) (hle : ¬ z j < z (j - 1)) : Ord z (i + 1) := fun p q h1 h2 => by
  by_cases hq : q = j
  · subst hq
    by_cases hp : p = q - 1
    · subst hp; omega
    · have := h p (q - 1) (by omega) (by omega) (by omega)
      omega
  · exact h p q h1 (by omega) hq
theorem Ins.swap {z : Nat → Int} {i j : Nat} (h : Ins z i j) (hj : 0 < j) (hji : j ≤ i) (hlt : z j < z (j - 1)) : Ins (swp z j) i (j - 1) := fun p q h1 h2 h3 => by
  unfold swp
  by_cases hq : q = j
  · subst hq
    rw [if_pos rfl, if_neg (by omega : ¬ p = q)]
    split
    · omega
    · exact h p (q - 1) (by omega) (by omega) (by omega)
  · rw [if_neg hq, if_neg h3]
    split
    · exact h (j - 1) q (by omega) h2 hq
    · split
      · exact h j q (by omega) h2 hq
      · exact h p q h1 h2 hq
end Go.Proofs.Ytmalcekbhnkfgaa
namespace Go.Proofs.Ytmalcekbhnkfgaa
open Go.RowKit Go.Maps
set_option linter.unusedVariables false
set_option linter.unusedSimpArgs false

set_option maxRecDepth 100000 in
set_option maxHeartbeats 4000000 in
theorem insertion_any (b n cap : Nat) (z0 : Nat → Int) (w : World) (hz : RowI w b n z0) (hn : n ≤ 1000000) (hnc : n ≤ cap) :
    Calls Try.prog 52 #[.slice (some ⟨b, 0, none⟩) n cap, .int .i64 0, .int .i64 n] w fun e w' => e = .returned (.tuple #[]) ∧ (∃ z, RowI w' b n z ∧ ((List.range n).map z).Perm ((List.range n).map z0) ∧ Ord z n) ∧ Kw (fun x => x = b) w w' := by
  have HZ := Lib.hid hz
  have HL := Lib.hid less_u
  clear hz
  go_enter Try.func52, Try.ntmps52
  go_wp2_with (fail)
  go_loopw [6] (fun vi wr => ∃ (i : Nat) (z : Nat → Int), 1 ≤ i ∧ (i ≤ n ∨ i = 1) ∧ vi = .int .i64 i ∧ RowI wr b n z ∧ ((List.range n).map z).Perm ((List.range n).map z0) ∧ Ord z i ∧ Kw (fun x => x = b) w wr) (fun i _ => n - (intOf i).toNat)
  case atStart => exact ⟨1, z0, Nat.le_refl _, .inr rfl, rfl, HZ.out, List.Perm.refl _, fun p q h1 h2 => by omega, Kw.refl _ _⟩
  case round =>
    obtain ⟨i, z, hi1, hin, rfl, hr, hp, ho, hk⟩ := hrel
    have HR := Lib.hid hr
    have HP := Lib.hid hp
    have HO := Lib.hid ho
    have HK := Lib.hid hk
    clear hr hp ho hk
    by_cases hi : i < n
    · have hii : (i : Int) < (n : Int) := by omega
      go_wp2_with (fail)
      go_loopw [7] (fun vj wr => ∃ (j : Nat) (z : Nat → Int), j ≤ i ∧ vj = .int .i64 j ∧ RowI wr b n z ∧ ((List.range n).map z).Perm ((List.range n).map z0) ∧ Ins z i j ∧ Kw (fun x => x = b) w wr) (fun j _ => (intOf j).toNat)
      case atStart => exact ⟨i, z, Nat.le_refl _, rfl, HR.out, HP.out, HO.out.ins, HK.out⟩
      case round =>
        obtain ⟨j, z, hji, rfl, hr, hp, ho, hk⟩ := hrel
        have HR := Lib.hid hr
        have HP := Lib.hid hp
        have HO := Lib.hid ho
        have HK := Lib.hid hk
        by_cases hj0 : j = 0
        · have H0 : Hid (decide ((0 : Int) < (j : Int)) = false) := Lib.hid (decide_eq_false (by omega))
          have H0n : Hid (decide (0 < j) = false) := Lib.hid (decide_eq_false (by omega))
          have HE : Hid (Ord z (i + 1)) := Lib.hid (by rw [hj0] at ho; exact ho.done0)
          clear hr hp ho hk hj0
          go_wp2_with (fail)
          refine wp_region_ext (by kernel_rfl) (by kernel_rfl) ?_
          repeat (first | rw [H0.out] | rw [H0n.out] | go_big_quiet_step (fail))
          refine wpQuiet_nil ?_
          rintro w2 ⟨⟨_, hb2⟩, rfl⟩
          have HR2 : Hid (RowI w2 b n z) := Lib.hid (HR.out.below hb2)
          have HK2 := Lib.hid (HK.out.trans (Kw.ofBelow hb2))
          clear hb2
          go_wp2_with (fail)
          go_roundw
          case rel => exact ⟨i + 1, z, by omega, by omega, by first | rfl | (push_cast; rfl) | go_num, HR2.out, HP.out, HE.out, HK2.out⟩
          case measure => simp [intOf]; omega
        · have H0 : Hid (decide ((0 : Int) < (j : Int)) = true) := Lib.hid (decide_eq_true (by omega))
          have H0n : Hid (decide (0 < j) = true) := Lib.hid (decide_eq_true (by omega))
          have hjj0 : (0 : Int) ≤ (j : Int) := by omega
          have hjj1 : (j : Int) < (n : Int) := by omega
          have hpj0 : (0 : Int) ≤ (j : Int) - 1 := by omega
          have hpj1 : (j : Int) - 1 < (n : Int) := by omega
          have hpjn : ((j : Int) - 1).toNat = j - 1 := by omega
          obtain ⟨a0, f0⟩ := hr.2 j (by omega)
          obtain ⟨a1, f1⟩ := hr.2 (j - 1) (by omega)
          have hbw := hr.1
          obtain ⟨x, hx⟩ : ∃ x, z j = x := ⟨_, rfl⟩
          obtain ⟨y, hy⟩ : ∃ y, z (j - 1) = y := ⟨_, rfl⟩
          rw [hx] at a0
          rw [hy] at a1
          have HX := Lib.hid hx
          have HY := Lib.hid hy
          have HJ0 := Lib.hid hj0
          have e0 := ext_cell a0
          have e1 := ext_cell a1
          clear hr hp ho hk hx hy hj0
          by_cases hlt : x < y
          · have hd : decide (x < y) = true := decide_eq_true hlt
            have HLS : Hid (∀ w, Calls Try.prog 58 #[.int .u64 x, .int .u64 y] w fun e w' => e = .returned (.bool true) ∧ w = w') := Lib.hid (fun w => by have h := HL.out x y w; rwa [hd] at h)
            have HLT := Lib.hid hlt
            clear hlt hd
            go_wp2_with (fail)
            refine wp_region_ext (by kernel_rfl) (by kernel_rfl) ?_
            repeat (first | rw [H0.out] | rw [H0n.out] | go_big_quiet_step ((go_at_call 58; exact ext_calls_same (HLS.out _))))
            refine wpQuiet_nil ?_
            rintro w2 ⟨⟨_, hb2⟩, rfl⟩
            have hs2 := hb2.size
            have HR2 : Hid (RowI w2 b n z) := Lib.hid (HR.out.below hb2)
            have HK2 := Lib.hid (HK.out.trans (Kw.ofBelow hb2))
            obtain ⟨a0, f0⟩ := HR2.out.2 j (by omega)
            obtain ⟨a1, f1⟩ := HR2.out.2 (j - 1) (by omega)
            rw [HX.out] at a0
            rw [HY.out] at a1
            have hbw2 : b < w2.heap.size := by omega
            clear hb2 e0 e1
            go_wp2_with (fail)
            go_region
            have hj' : 0 < j := by have := HJ0.out; omega
            have HR3 : Hid (RowI (((w2.setCell ⟨b, j, none⟩ (.int .u64 y)).setCell ⟨b, j - 1, none⟩ (.int .u64 x)).drew) b n (swp z j)) := Lib.hid (by
              have h := HR2.out.swap (j := j) (by omega) hj'
              rw [HX.out, HY.out] at h
              exact h)
            have HK3 : Hid (Kw (fun x => x = b) w (((w2.setCell ⟨b, j, none⟩ (.int .u64 y)).setCell ⟨b, j - 1, none⟩ (.int .u64 x)).drew)) := Lib.hid (((HK2.out.setCell (p := ⟨b, j, none⟩) rfl _).setCell (p := ⟨b, j - 1, none⟩) rfl _).drew)
            have HP3 : Hid (((List.range n).map (swp z j)).Perm ((List.range n).map z0)) := Lib.hid ((swp_perm z (by omega) hj').trans HP.out)
            have HI3 : Hid (Ins (swp z j) i (j - 1)) := Lib.hid (HO.out.swap hj' hji (by rw [HX.out, HY.out]; exact HLT.out))
            have hje : ((j - 1 : Nat) : Int) = (j : Int) - 1 := by omega
            have HJE := Lib.hid hje
            clear hje
            go_wp2_with (fail)
            go_roundw
            case rel => exact ⟨j - 1, swp z j, by omega, by rw [HJE.out], HR3.out, HP3.out, HI3.out, HK3.out⟩
            case measure => simp [intOf]; omega
          · have hd : decide (x < y) = false := decide_eq_false hlt
            have HLS : Hid (∀ w, Calls Try.prog 58 #[.int .u64 x, .int .u64 y] w fun e w' => e = .returned (.bool false) ∧ w = w') := Lib.hid (fun w => by have h := HL.out x y w; rwa [hd] at h)
            have HE : Hid (Ord z (i + 1)) := Lib.hid (HO.out.done (by have := HJ0.out; omega) hji (by rw [HX.out, HY.out]; exact hlt))
            clear hlt hd
            go_wp2_with (fail)
            refine wp_region_ext (by kernel_rfl) (by kernel_rfl) ?_
            repeat (first | rw [H0.out] | rw [H0n.out] | go_big_quiet_step ((go_at_call 58; exact ext_calls_same (HLS.out _))))
            refine wpQuiet_nil ?_
            rintro w2 ⟨⟨_, hb2⟩, rfl⟩
            have HR2 : Hid (RowI w2 b n z) := Lib.hid (HR.out.below hb2)
            have HK2 := Lib.hid (HK.out.trans (Kw.ofBelow hb2))
            clear hb2 e0 e1
            go_wp2_with (fail)
            go_roundw
            case rel => exact ⟨i + 1, z, by omega, by omega, by first | rfl | (push_cast; rfl) | go_num, HR2.out, HP.out, HE.out, HK2.out⟩
            case measure => simp [intOf]; omega
    · have hirr : ¬ (i : Int) < (n : Int) := by omega
      have HE : Hid (Ord z n) := Lib.hid (fun p q h1 h2 => HO.out p q h1 (by omega))
      go_wp2_with (fail)
      go_end0
      exact ⟨rfl, ⟨z, HR.out, HP.out, HE.out⟩, HK.out⟩
end Go.Proofs.Ytmalcekbhnkfgaa
namespace Go.Proofs.Ytmalcekbhnkfgaa
open Go.RowKit Go.Maps
set_option linter.unusedVariables false
set_option linter.unusedSimpArgs false

set_option maxRecDepth 100000 in
set_option maxHeartbeats 4000000 in
theorem pdq_few (b n cap : Nat) (lim : Int) (z0 : Nat → Int) (w : World) (hz : RowI w b n z0) (hn : n ≤ 12) (hnc : n ≤ cap) :
    Calls Try.prog 50 #[.slice (some ⟨b, 0, none⟩) n cap, .int .i64 0, .int .i64 n, .int .i64 lim] w fun e w' => e = .returned (.tuple #[]) ∧ (∃ z, RowI w' b n z ∧ ((List.range n).map z).Perm ((List.range n).map z0) ∧ Ord z n) ∧ Kw (fun x => x = b) w w' := by
  have HI := Lib.hid (insertion_any b n cap z0 w hz (by omega) hnc)
  have hn0 : (0 : Int) ≤ (n : Int) := by omega
  have hn1 : (n : Int) ≤ 12 := by omega
  clear hz
  go_enter Try.func50, Try.ntmps50
  go_wp2_with (fail)
  go_loopw [1, 2] (fun v1 v2 wr => v1 = .int .i64 0 ∧ v2 = .int .i64 n ∧ w = wr) (fun _ _ _ => 0)
  case atStart => exact ⟨rfl, rfl, rfl⟩
  case round =>
    obtain ⟨rfl, rfl, rfl⟩ := hrel
    go_wp2_with (fail)
    refine HI.out.mono ?_
    rintro e w2 ⟨rfl, hz2, hk2⟩
    have HZ2 := Lib.hid hz2
    have HK2 := Lib.hid hk2
    clear hz2 hk2
    go_wp2_with (fail)
    refine bodyPost_ret (results_none rfl _ _ _) rfl ?_
    exact ⟨rfl, HZ2.out, HK2.out⟩
set_option maxRecDepth 100000 in
set_option maxHeartbeats 4000000 in
theorem len64_0 (w : World) : Calls Try.prog 62 #[.int .u64 0] w fun e w' => ∃ k : Int, e = .returned (.int .i64 k) ∧ w = w' := by
  go_enter Try.func62, Try.ntmps62
  go_wp2_with (fail)
  go_ret
  exact ⟨_, rfl, rfl⟩
set_option maxRecDepth 100000 in
set_option maxHeartbeats 4000000 in
theorem len_0 (w : World) : Calls Try.prog 51 #[.int .u64 0] w fun e w' => ∃ k : Int, e = .returned (.int .i64 k) ∧ w = w' := by
  have H := Lib.hid (fun w => len64_0 w)
  go_enter Try.func51, Try.ntmps51
  go_wp2_with (fail)
  refine (H.out _).mono ?_
  rintro e w2 ⟨k, rfl, rfl⟩
  go_wp2_with (fail)
  go_ret
  exact ⟨_, rfl, rfl⟩
set_option maxRecDepth 100000 in
set_option maxHeartbeats 4000000 in
theorem len64_3 (w : World) : Calls Try.prog 62 #[.int .u64 3] w fun e w' => ∃ k : Int, e = .returned (.int .i64 k) ∧ w = w' := by
  go_enter Try.func62, Try.ntmps62
  go_wp2_with (fail)
  go_ret
  exact ⟨_, rfl, rfl⟩
set_option maxRecDepth 100000 in
set_option maxHeartbeats 4000000 in
theorem len_3 (w : World) : Calls Try.prog 51 #[.int .u64 3] w fun e w' => ∃ k : Int, e = .returned (.int .i64 k) ∧ w = w' := by
  have H := Lib.hid (fun w => len64_3 w)
  go_enter Try.func51, Try.ntmps51
  go_wp2_with (fail)
  refine (H.out _).mono ?_
  rintro e w2 ⟨k, rfl, rfl⟩
  go_wp2_with (fail)
  go_ret
  exact ⟨_, rfl, rfl⟩
set_option maxRecDepth 100000 in
set_option maxHeartbeats 4000000 in
theorem sort_3 (b cap : Nat) (z0 : Nat → Int) (w : World) (hz : RowI w b 3 z0) (hnc : 3 ≤ cap) :
    Calls Try.prog 47 #[.slice (some ⟨b, 0, none⟩) 3 cap] w fun e w' => e = .returned (.tuple #[]) ∧ (∃ z, RowI w' b 3 z ∧ ((List.range 3).map z).Perm ((List.range 3).map z0) ∧ Ord z 3) ∧ Kw (fun x => x = b) w w' := by
  have HI := Lib.hid (fun lim => pdq_few b 3 cap lim z0 w hz (by omega) hnc)
  have HL := Lib.hid (fun w => len_3 w)
  clear hz
  go_enter Try.func47, Try.ntmps47
  go_wp2_with (fail)
  refine (HL.out _).mono ?_
  rintro e w2 ⟨k, rfl, rfl⟩
  go_wp2_with (fail)
  refine (HI.out k).mono ?_
  rintro e w2 ⟨rfl, hz2, hk2⟩
  have HZ2 := Lib.hid hz2
  have HK2 := Lib.hid hk2
  clear hz2 hk2
  go_wp2_with (fail)
  go_end0
  exact ⟨rfl, HZ2.out, HK2.out⟩
set_option maxRecDepth 100000 in
set_option maxHeartbeats 4000000 in
theorem insertion_none (A : Option Addr) (cap : Nat) (w : World) : Calls Try.prog 52 #[.slice A 0 cap, .int .i64 0, .int .i64 0] w fun e w' => e = .returned (.tuple #[]) ∧ w = w' := by
  go_enter Try.func52, Try.ntmps52
  go_wp2_with (fail)
  go_loopw [6] (fun vi wr => vi = .int .i64 1 ∧ w = wr) (fun i _ => 0)
  case atStart => exact ⟨rfl, rfl⟩
  case round =>
    obtain ⟨rfl, rfl⟩ := hrel
    go_wp2_with (fail)
    go_end0
    exact ⟨rfl, rfl⟩
set_option maxRecDepth 100000 in
set_option maxHeartbeats 4000000 in
theorem sort_0 (A : Option Addr) (cap : Nat) (w : World) :
    Calls Try.prog 47 #[.slice A 0 cap] w fun e w' => e = .returned (.tuple #[]) ∧ w = w' := by
  have HP : Hid (∀ lim, Calls Try.prog 50 #[.slice A 0 cap, .int .i64 0, .int .i64 0, .int .i64 lim] w fun e w' => e = .returned (.tuple #[]) ∧ w = w') := Lib.hid (fun lim => by
    have HI := Lib.hid (insertion_none A cap w)
    go_enter Try.func50, Try.ntmps50
    go_wp2_with (fail)
    go_loopw [1, 2] (fun v1 v2 wr => v1 = .int .i64 0 ∧ v2 = .int .i64 0 ∧ w = wr) (fun _ _ _ => 0)
    case atStart => exact ⟨rfl, rfl, rfl⟩
    case round =>
      obtain ⟨rfl, rfl, rfl⟩ := hrel
      go_wp2_with (fail)
      refine HI.out.mono ?_
      rintro e w2 ⟨rfl, rfl⟩
      go_wp2_with (fail)
      refine bodyPost_ret (results_none rfl _ _ _) rfl ?_
      exact ⟨rfl, rfl⟩)
  have HL := Lib.hid (fun w => len_0 w)
  go_enter Try.func47, Try.ntmps47
  go_wp2_with (fail)
  refine (HL.out _).mono ?_
  rintro e w2 ⟨k, rfl, rfl⟩
  go_wp2_with (fail)
  refine (HP.out k).mono ?_
  rintro e w2 ⟨rfl, rfl⟩
  go_wp2_with (fail)
  go_end0
  exact ⟨rfl, rfl⟩
end Go.Proofs.Ytmalcekbhnkfgaa
