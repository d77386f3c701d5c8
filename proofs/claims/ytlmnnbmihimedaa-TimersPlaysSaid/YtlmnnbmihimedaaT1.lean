/- The contracts of the reference's Same and of filled. Conditions: as each theorem states them. -/
import Derived.Test.YtlmnnbmihimedaaT0
namespace Go.Proofs.Ytlmnnbmihimedaa
open Go.RowKit Go.Maps
set_option linter.unusedVariables false
set_option linter.unusedSimpArgs false

theorem bl_lt {w : World} {a : Addr} {v : Value} (h : w.cell? a = some v) : a.block < w.heap.size := World.block_lt_of_cell? w a h
set_option maxRecDepth 100000 in
set_option maxHeartbeats 2000000 in
theorem same_eq (A C : Option Addr) (n ca cc : Nat) (l : List Tm) (w : World) (hl : l.length = n) (hn : n ≤ 1000000) (hA : RdT w w.heap.size A l) (hC : RdT w w.heap.size C l) :
    Calls Try.prog 18 #[.slice A n ca, .slice C n cc] w fun e w' => e = .returned (.bool true) ∧ Below w.heap.size w w' := by
  have HA := Lib.hid hA
  have HC := Lib.hid hC
  have HLN := Lib.hid hl
  clear hA hC hl
  go_enter Try.func18, Try.ntmps18
  go_wp2_with (fail)
  go_loopw [5] (fun vi wr => ∃ i : Nat, i ≤ n ∧ vi = .int .i64 i ∧ Below w.heap.size w wr) (fun i _ => n - (intOf i).toNat)
  case atStart => exact ⟨0, Nat.zero_le _, rfl, Below.refl _ _⟩
  case round =>
    obtain ⟨i, hin, rfl, hbl⟩ := hrel
    have HBL := Lib.hid hbl
    have hws := hbl.size
    by_cases hlt : i < n
    · have hi0 : (0 : Int) ≤ (i : Int) := by omega
      have hi1 : (i : Int) < (n : Int) := by omega
      obtain ⟨b, off, rfl, hb, _, hc⟩ := HA.out (by rw [HLN.out]; omega)
      obtain ⟨b', off', rfl, hb', _, hc'⟩ := HC.out (by rw [HLN.out]; omega)
      obtain ⟨a0, a1, a2⟩ := hc i (by rw [HLN.out]; exact hlt)
      obtain ⟨d0, d1, d2⟩ := hc' i (by rw [HLN.out]; exact hlt)
      generalize l.getD i zeroT = x at *
      have a0 := (hbl.cell (p := ⟨b, off + i * 3, none⟩) hb).trans a0
      have a1 := (hbl.cell (p := ⟨b, off + i * 3 + 1, none⟩) hb).trans a1
      have a2 := (hbl.cell (p := ⟨b, off + i * 3 + 2, none⟩) hb).trans a2
      have d0 := (hbl.cell (p := ⟨b', off' + i * 3, none⟩) hb').trans d0
      have d1 := (hbl.cell (p := ⟨b', off' + i * 3 + 1, none⟩) hb').trans d1
      have d2 := (hbl.cell (p := ⟨b', off' + i * 3 + 2, none⟩) hb').trans d2
      have hlb : b < wr.heap.size := by omega
      have hlb' : b' < wr.heap.size := by omega
      clear hc hc' hbl
      go_wp2_with (fail)
      go_quiet (fail)
      have hbn := bl_drewN HBL.out nq
      have HBN := Lib.hid hbn
      clear hbn
      go_wp2_with (fail)
      go_roundw
      case rel => exact ⟨i + 1, by omega, by first | rfl | (push_cast; rfl) | go_num, HBN.out⟩
      case measure => simp [intOf]; omega
    · have hine : i = n := by omega
      subst hine
      clear hbl
      go_wp2_with (fail)
      go_ret
      exact ⟨rfl, HBL.out⟩
/-- A list of timers put one behind the other. -/
noncomputable def putAll (T : List Tm) (l : List Tm) : List Tm := l.foldl putT T
theorem putAll_snoc (T l : List Tm) (x : Tm) : putAll T (l ++ [x]) = putT (putAll T l) x := by simp [putAll]
theorem take_snocT {l : List Tm} {i : Nat} (h : i < l.length) : l.take (i + 1) = l.take i ++ [l.getD i zeroT] := by
  rw [List.take_add_one, List.getElem?_eq_getElem h, List.getD_eq_getElem?_getD, List.getElem?_eq_getElem h]
  rfl
set_option maxRecDepth 100000 in
set_option maxHeartbeats 2000000 in
theorem filled_any (A : Option Addr) (n c : Nat) (l : List Tm) (w : World) (hl : l.length = n) (hn : n ≤ 1000000) (hA : RdT w w.heap.size A l) :
    Calls Try.prog 16 #[.slice A n c, .bool false] w fun e w' => e = .returned (.pointer (some ⟨w.heap.size + 1, 0, none⟩)) ∧ QL w' w.heap.size (w.heap.size + 1) w.heap.size (putAll [] l) (fun b => w.heap.size ≤ b) ∧ Below w.heap.size w w' := by
  have HA := Lib.hid hA
  have HLN := Lib.hid hl
  clear hA hl
  go_enter Try.func16, Try.ntmps16
  go_wp2_with (fail)
  refine (newL w).mono ?_
  rintro e w1 ⟨rfl, hq1, hb1⟩
  have HQ1 := Lib.hid hq1
  have HB1 := Lib.hid hb1
  clear hq1 hb1
  go_wp2_with (fail)
  go_loopw [6] (fun vi wr => ∃ i : Nat, i ≤ n ∧ vi = .int .i64 i ∧ QL wr w.heap.size (w.heap.size + 1) w.heap.size (putAll [] (l.take i)) (fun b => w.heap.size ≤ b) ∧ Below w.heap.size w wr) (fun i _ => n - (intOf i).toNat)
  case atStart => exact ⟨0, Nat.zero_le _, rfl, HQ1.out, HB1.out⟩
  case round =>
    obtain ⟨i, hin, rfl, hq, hbl⟩ := hrel
    have HBL := Lib.hid hbl
    have HQ := Lib.hid hq
    have hws := hbl.size
    clear hq
    by_cases hlt : i < n
    · have hi0 : (0 : Int) ≤ (i : Int) := by omega
      have hi1 : (i : Int) < (n : Int) := by omega
      obtain ⟨b, off, rfl, hb, _, hc⟩ := HA.out (by rw [HLN.out]; omega)
      obtain ⟨a0, a1, a2⟩ := hc i (by rw [HLN.out]; exact hlt)
      have hts := take_snocT (l := l) (i := i) (by rw [HLN.out]; exact hlt)
      generalize l.getD i zeroT = x at *
      have a0 := (hbl.cell (p := ⟨b, off + i * 3, none⟩) hb).trans a0
      have a1 := (hbl.cell (p := ⟨b, off + i * 3 + 1, none⟩) hb).trans a1
      have a2 := (hbl.cell (p := ⟨b, off + i * 3 + 2, none⟩) hb).trans a2
      have hlb : b < wr.heap.size := by omega
      have HTS := Lib.hid hts
      clear hc hbl hts
      go_wp2_with (fail)
      refine (putL w.heap.size (w.heap.size + 1) w.heap.size _ (fun b => w.heap.size ≤ b) x wr HQ.out hws (fun b hb => by omega)).mono ?_
      rintro e w2 ⟨rfl, hq2, hk2⟩
      have HQ2 := Lib.hid hq2
      have HK2 := Lib.hid hk2
      clear hq2 hk2
      go_wp2_with (fail)
      go_roundw
      case rel => exact ⟨i + 1, by omega, by first | rfl | (push_cast; rfl) | go_num, by rw [HTS.out, putAll_snoc]; exact HQ2.out, ((Kw.ofBelow HBL.out).trans HK2.out).below (Nat.le_refl _) (fun b h => h)⟩
      case measure => simp [intOf]; omega
    · have hine : i = n := by omega
      subst hine
      clear hbl
      go_wp2_with (fail)
      go_ret
      refine ⟨rfl, ?_, HBL.out⟩
      have := HQ.out
      rwa [List.take_of_length_le (by rw [HLN.out]; omega)] at this
theorem rev_getD {l : List Tm} {i p : Nat} (h : l.length = p + 1 + i) : l.reverse.getD i zeroT = l.getD p zeroT := by
  rw [List.getD_eq_getElem?_getD, List.getD_eq_getElem?_getD, List.getElem?_reverse (by omega)]
  congr 2
  omega
set_option maxRecDepth 100000 in
set_option maxHeartbeats 2000000 in
theorem filled_back (A : Option Addr) (n c : Nat) (l : List Tm) (w : World) (hl : l.length = n) (hn : n ≤ 1000000) (hA : RdT w w.heap.size A l) :
    Calls Try.prog 16 #[.slice A n c, .bool true] w fun e w' => e = .returned (.pointer (some ⟨w.heap.size + 1, 0, none⟩)) ∧ QL w' w.heap.size (w.heap.size + 1) w.heap.size (putAll [] l.reverse) (fun b => w.heap.size ≤ b) ∧ Below w.heap.size w w' := by
  have HA := Lib.hid hA
  have HLN := Lib.hid hl
  clear hA hl
  go_enter Try.func16, Try.ntmps16
  go_wp2_with (fail)
  refine (newL w).mono ?_
  rintro e w1 ⟨rfl, hq1, hb1⟩
  have HQ1 := Lib.hid hq1
  have HB1 := Lib.hid hb1
  clear hq1 hb1
  go_wp2_with (fail)
  go_loopw [6] (fun vi wr => ∃ i : Nat, i ≤ n ∧ vi = .int .i64 i ∧ QL wr w.heap.size (w.heap.size + 1) w.heap.size (putAll [] (l.reverse.take i)) (fun b => w.heap.size ≤ b) ∧ Below w.heap.size w wr) (fun i _ => n - (intOf i).toNat)
  case atStart => exact ⟨0, Nat.zero_le _, rfl, HQ1.out, HB1.out⟩
  case round =>
    obtain ⟨i, hin, rfl, hq, hbl⟩ := hrel
    have HBL := Lib.hid hbl
    have HQ := Lib.hid hq
    have hws := hbl.size
    clear hq
    by_cases hlt : i < n
    · obtain ⟨p, hp⟩ : ∃ p, n = p + 1 + i := ⟨n - 1 - i, by omega⟩
      have hp0 : (0 : Int) ≤ (p : Int) := by omega
      have hp1 : (p : Int) < (n : Int) := by omega
      have hi0 : (0 : Int) ≤ (i : Int) := by omega
      have hi1 : (i : Int) < (n : Int) := by omega
      have hix : (n : Int) - 1 - (i : Int) = (p : Int) := by omega
      obtain ⟨b, off, rfl, hb, _, hc⟩ := HA.out (by rw [HLN.out]; omega)
      obtain ⟨a0, a1, a2⟩ := hc p (by rw [HLN.out]; omega)
      have hts := take_snocT (l := l.reverse) (i := i) (by rw [List.length_reverse, HLN.out]; exact hlt)
      rw [rev_getD (p := p) (by rw [HLN.out]; exact hp)] at hts
      generalize l.getD p zeroT = x at *
      have a0 := (hbl.cell (p := ⟨b, off + p * 3, none⟩) hb).trans a0
      have a1 := (hbl.cell (p := ⟨b, off + p * 3 + 1, none⟩) hb).trans a1
      have a2 := (hbl.cell (p := ⟨b, off + p * 3 + 2, none⟩) hb).trans a2
      have hlb : b < wr.heap.size := by omega
      have HTS := Lib.hid hts
      have HP := Lib.hid hp
      clear hc hbl hts hp
      go_wp2_with (fail)
      refine (putL w.heap.size (w.heap.size + 1) w.heap.size _ (fun b => w.heap.size ≤ b) x wr HQ.out hws (fun b hb => by omega)).mono ?_
      rintro e w2 ⟨rfl, hq2, hk2⟩
      have HQ2 := Lib.hid hq2
      have HK2 := Lib.hid hk2
      clear hq2 hk2
      go_wp2_with (fail)
      go_roundw
      case rel => exact ⟨i + 1, by omega, by first | rfl | (push_cast; rfl) | go_num, by rw [HTS.out, putAll_snoc]; exact HQ2.out, ((Kw.ofBelow HBL.out).trans HK2.out).below (Nat.le_refl _) (fun b h => h)⟩
      case measure => simp [intOf]; omega
    · have hine : i = n := by omega
      subst hine
      clear hbl
      go_wp2_with (fail)
      go_ret
      refine ⟨rfl, ?_, HBL.out⟩
      have := HQ.out
      rwa [List.take_of_length_le (by rw [List.length_reverse, HLN.out]; omega)] at this
end Go.Proofs.Ytlmnnbmihimedaa
