/- Contracts of the predicate of Drop and of slices.IndexFunc with it. Conditions: as each theorem states them. -/
import Derived.Test.YtmalcekbhnkfgaaF3
import Derived.Test.YtmalcekbhnkfgaaD4
namespace Go.Proofs.Ytmalcekbhnkfgaa
open Go.RowKit Go.Maps Go.Shelf
set_option linter.unusedVariables false
set_option linter.unusedSimpArgs false

set_option maxHeartbeats 1000000 in
theorem drop1_any (pid id : Int) (A : Option Addr) (n c Bi : Nat) (w : World) (hb : w.cell? ⟨Bi, 0, none⟩ = some (.int .u64 id)) (hl : Bi < w.heap.size) :
    Calls Try.prog 41 #[.agg #[.int .u64 pid, .slice A n c], .pointer (some ⟨Bi, 0, none⟩)] w fun e w' => e = .returned (.bool (decide (pid = id))) ∧ Below w.heap.size w w' := by
  have hbA := bl_alloc (Below.refl w.heap.size w) (Obj.cells #[.int .u64 pid, .slice A n c] 26)
  go_enter Try.func41, Try.ntmps41
  go_wp2_with (fail)
  go_ret
  refine ⟨?_, hbA⟩
  by_cases h : pid = id
  · simp [h]
  · simp [h]
/-- What IndexFunc tells of the points' numbers. -/
def IdxR (l : List Pt) (n : Nat) (id : Int) (e : Ending) : Prop := ∃ k : Int, e = .returned (.int .i64 k) ∧ ((k = -1 ∧ ∀ i, i < n → (l.getD i zeroP).id ≠ id) ∨ ∃ i : Nat, k = i ∧ i < n ∧ (l.getD i zeroP).id = id)
set_option maxRecDepth 100000 in
set_option maxHeartbeats 2000000 in
theorem index_any (A : Option Addr) (n c Bi : Nat) (id : Int) (l : List Pt) (w : World) (hl : l.length = n) (hn : n ≤ 1000000) (hA : RdP w w.heap.size A l) (hb : w.cell? ⟨Bi, 0, none⟩ = some (.int .u64 id)) (hBi : Bi < w.heap.size) :
    Calls Try.prog 40 #[.slice A n c, .func (.func 41) #[] #[.pointer (some ⟨Bi, 0, none⟩)]] w fun e w' => IdxR l n id e ∧ Below w.heap.size w w' := by
  have HA := Lib.hid hA
  have HL := Lib.hid hl
  have HB := Lib.hid hb
  clear hA hl hb
  go_enter Try.func40, Try.ntmps40
  go_wp2_with (fail)
  go_loopw [8] (fun vi wr => ∃ i : Nat, i ≤ n ∧ vi = .int .i64 i ∧ (∀ j, j < i → (l.getD j zeroP).id ≠ id) ∧ Below w.heap.size w wr) (fun i _ => n - (intOf i).toNat)
  case atStart => exact ⟨0, Nat.zero_le _, rfl, fun j hj => by omega, Below.refl _ _⟩
  case round =>
    obtain ⟨i, hin, rfl, hno, hbl⟩ := hrel
    have HNO := Lib.hid hno
    have HBL := Lib.hid hbl
    have hws := hbl.size
    clear hno hbl
    by_cases hi : i < n
    · have hi0 : (0 : Int) ≤ (i : Int) := by omega
      have hi1 : (i : Int) < (n : Int) := by omega
      obtain ⟨b, off, rfl, hbb, _, hc⟩ := HA.out.1 (by rw [HL.out]; omega)
      obtain ⟨a0, a1⟩ := hc i (by rw [HL.out]; exact hi)
      obtain ⟨p, hp⟩ : ∃ p, l.getD i zeroP = p := ⟨_, rfl⟩
      rw [hp] at a0 a1
      have HP := Lib.hid hp
      have a0 := (HBL.out.cell (p := ⟨b, off + i * 2, none⟩) hbb).trans a0
      have a1 := (HBL.out.cell (p := ⟨b, off + i * 2 + 1, none⟩) hbb).trans a1
      have hbw : b < wr.heap.size := by omega
      have cB := (HBL.out.cell (p := ⟨Bi, 0, none⟩) hBi).trans HB.out
      have hBw : Bi < wr.heap.size := by omega
      clear hc hp
      go_wp2_with ((go_at_call 41; refine Hid.out ?_))
      refine Lib.hid ?_
      refine (drop1_any p.id id p.A p.fs.length p.c Bi wr cB hBw).mono ?_
      rintro e w2 ⟨rfl, hb2⟩
      have HB2 := Lib.hid (HBL.out.trans (hb2.mono hws))
      clear hb2
      by_cases hid : p.id = id
      · have hd : decide (p.id = id) = true := decide_eq_true hid
        rw [hd]
        have HV : Hid (IdxR l n id (.returned (.int .i64 (i : Int)))) := Lib.hid ⟨_, rfl, .inr ⟨i, rfl, hi, by rw [HP.out]; exact hid⟩⟩
        clear hid hd
        go_wp2_with (fail)
        go_ret
        exact ⟨HV.out, HB2.out⟩
      · have hd : decide (p.id = id) = false := decide_eq_false hid
        rw [hd]
        have HV : Hid (∀ j, j < i + 1 → (l.getD j zeroP).id ≠ id) := Lib.hid (fun j hj => by
          by_cases hji : j = i
          · rw [hji, HP.out]
            exact hid
          · exact HNO.out j (by omega))
        clear hid hd
        go_wp2_with (fail)
        go_roundw
        case rel => exact ⟨i + 1, by omega, by first | rfl | (push_cast; rfl) | go_num, HV.out, HB2.out⟩
        case measure => simp [intOf]; omega
    · have hine : n = i := by omega
      subst hine
      have hirr : ¬ (n : Int) < (n : Int) := by omega
      have HV : Hid (IdxR l n id (.returned (.int .i64 (-1)))) := Lib.hid ⟨_, rfl, .inl ⟨rfl, HNO.out⟩⟩
      go_wp2_with (fail)
      go_ret
      exact ⟨HV.out, HBL.out⟩
end Go.Proofs.Ytmalcekbhnkfgaa
