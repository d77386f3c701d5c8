/- Contracts of great and of awake. Conditions: as each theorem states them. -/
import Derived.Test.YtmalcekbhnkfgaaB7
namespace Go.Proofs.Ytmalcekbhnkfgaa
open Go.RowKit Go.Maps Go.Shelf
set_option linter.unusedVariables false
set_option linter.unusedSimpArgs false

/-- Few points, with few files each. -/
def smallP (l : List Pt) : Prop := l.length ≤ 20 ∧ ∀ p ∈ l, p.fs.length ≤ 300
/-- What great answers. -/
def GreatR (l : List Pt) (e : Ending) : Prop := ∃ b : Bool, e = .returned (.bool b) ∧ (b = false → smallP l)
set_option maxRecDepth 100000 in
set_option maxHeartbeats 4000000 in
theorem great_few (A : Option Addr) (n c : Nat) (l : List Pt) (w : World) (hl : l.length = n) (hn : n ≤ 20) (hA : RdP w w.heap.size A l) :
    Calls Try.prog 10 #[.slice A n c] w fun e w' => GreatR l e ∧ w = w' := by
  have hni : ¬ (20 : Int) < (n : Int) := by omega
  have HLN := Lib.hid hl
  have HA := Lib.hid hA
  clear hl hA
  go_enter Try.func10, Try.ntmps10
  go_wp2_with (fail)
  go_loopw [3, 4] (fun vs vi wr => ∃ (i s : Nat), i ≤ n ∧ s ≤ i * 300 ∧ vs = .int .i64 s ∧ vi = .int .i64 i ∧ (∀ p ∈ l.take i, p.fs.length ≤ 300) ∧ w = wr) (fun _ i _ => n - (intOf i).toNat)
  case atStart => exact ⟨0, 0, Nat.zero_le _, Nat.le_refl _, rfl, rfl, by simp, rfl⟩
  case round =>
    obtain ⟨i, s, hin, hs, rfl, rfl, hf, rfl⟩ := hrel
    have HF := Lib.hid hf
    clear hf
    by_cases hi : i < n
    · have hi0 : (0 : Int) ≤ (i : Int) := by omega
      have hi1 : (i : Int) < (n : Int) := by omega
      have hil : i < l.length := by rw [HLN.out]; exact hi
      obtain ⟨b, off, rfl, hb, _, hc⟩ := HA.out.1 (by omega)
      obtain ⟨_, a1⟩ := hc i hil
      have hsn := take_snocP hil
      obtain ⟨p, hp⟩ : ∃ p, l.getD i zeroP = p := ⟨_, rfl⟩
      rw [hp] at a1 hsn
      have HSN := Lib.hid hsn
      clear hc hsn hp hil
      obtain ⟨m, hm⟩ : ∃ m, p.fs.length = m := ⟨_, rfl⟩
      rw [hm] at a1
      have HM := Lib.hid hm
      have hs0 : (0 : Int) ≤ (s : Int) := by omega
      have hs1 : (s : Int) ≤ 6000 := by omega
      have hm0 : (0 : Int) ≤ (m : Int) := by omega
      clear hm
      by_cases hm3 : m ≤ 300
      · have hm1 : (m : Int) ≤ 300 := by omega
        have hde : decide ((300 : Int) < (m : Int)) = false := decide_eq_false (by omega)
        have hns : ¬ (300 : Int) < (m : Int) := by omega
        have HV : Hid (∀ q ∈ l.take (i + 1), q.fs.length ≤ 300) := Lib.hid (fun q hq => by
          rw [HSN.out] at hq
          rcases List.mem_append.1 hq with h | h
          · exact HF.out q h
          · rw [List.mem_singleton.1 h, HM.out]; exact hm3)
        go_wp2_with (fail)
        go_roundw
        case rel => exact ⟨i + 1, s + m, by omega, by omega, by first | rfl | (push_cast; rfl) | go_num, by first | rfl | (push_cast; rfl) | go_num, HV.out, by first | trivial | rfl⟩
        case measure => simp [intOf]; omega
      · have hns : (300 : Int) < (m : Int) := by omega
        go_wp2_with (fail)
        go_ret
        exact ⟨⟨true, rfl, (fun h => by cases h)⟩, rfl⟩
    · have hine : i = n := by omega
      subst hine
      have hirr : ¬ (i : Int) < (i : Int) := by omega
      have HV : Hid (smallP l) := Lib.hid ⟨by rw [HLN.out]; exact hn, by have := HF.out; rwa [List.take_of_length_le (by rw [HLN.out]; exact Nat.le_refl _)] at this⟩
      go_wp2_with (fail)
      go_ret
      exact ⟨⟨_, rfl, fun _ => HV.out⟩, rfl⟩
set_option maxHeartbeats 1000000 in
theorem great_many (A : Option Addr) (n c : Nat) (w : World) (hn : 20 < n) :
    Calls Try.prog 10 #[.slice A n c] w fun e w' => e = .returned (.bool true) ∧ w = w' := by
  have hni : (20 : Int) < (n : Int) := by omega
  clear hn
  go_enter Try.func10, Try.ntmps10
  go_wp2_with (fail)
  go_ret
  exact ⟨rfl, rfl⟩
theorem great_any (A : Option Addr) (c : Nat) (l : List Pt) (w : World) (hA : RdP w w.heap.size A l) :
    Calls Try.prog 10 #[.slice A l.length c] w fun e w' => GreatR l e ∧ w = w' := by
  by_cases hn : l.length ≤ 20
  · exact great_few A l.length c l w rfl hn hA
  · refine (great_many A l.length c w (by omega)).mono ?_
    rintro e w' ⟨rfl, rfl⟩
    exact ⟨⟨true, rfl, (fun h => by cases h)⟩, rfl⟩
end Go.Proofs.Ytmalcekbhnkfgaa
