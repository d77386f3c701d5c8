/- Contracts of the reference's Counts, of same, and of append of numbers to an own row. Conditions: as each theorem states them. -/
import Derived.Test.YtmalcekbhnkfgaaK4
namespace Go.Proofs.Ytmalcekbhnkfgaa
open Go.RowKit Go.Maps Go.Shelf
set_option linter.unusedVariables false
set_option linter.unusedSimpArgs false

set_option maxRecDepth 100000 in
set_option maxHeartbeats 8000000 in
theorem rcounts_wrong (A : Option Addr) (n c : Nat) (l : List Pt) (w : World) (hl : l.length = n) (hA : RdP w w.heap.size A l) (hr : ¬ RightP l) :
    Calls Try.prog 25 #[.slice A n c] w fun e w' => e = .returned (.slice none 0 0) ∧ Below w.heap.size w w' := by
  have HR := Lib.hid (rright_any A c l w hA)
  rw [hl, rightB_f hr] at HR
  clear hl hA hr
  go_enter Try.func25, Try.ntmps25
  go_wp2_with (fail)
  go_loopw [3, 4] (fun vo vi wr => vi = .int .i64 0 ∧ vo = .slice none 0 0 ∧ wr = w) (fun _ i _ => 0)
  case atStart => exact ⟨rfl, rfl, rfl⟩
  case round =>
    obtain ⟨rfl, rfl, rfl⟩ := hrel
    by_cases hn : 0 < n
    · have hn1 : (0 : Int) < (n : Int) := by omega
      go_wp2_with ((go_at_call 17; refine Hid.out ?_))
      refine Lib.hid ?_
      refine HR.out.mono ?_
      rintro e w5 ⟨rfl, hb5⟩
      go_wp2_with (fail)
      go_ret
      exact ⟨rfl, hb5⟩
    · obtain rfl : n = 0 := by omega
      go_wp2_with (fail)
      go_ret
      exact ⟨rfl, Below.refl _ _⟩
theorem rcounts_any (A : Option Addr) (c : Nat) (l : List Pt) (w : World) (hA : RdP w w.heap.size A l) :
    Calls Try.prog 25 #[.slice A l.length c] w (CountsR w (cntL l)) := by
  by_cases hr : RightP l
  · refine (rcounts_right A l.length c l w rfl hA hr).mono ?_
    rintro e w' ⟨vo, rfl, ho, hb⟩
    obtain ⟨m, z, hm, hk, hown⟩ := ho.ckeys hr hb.size
    exact ⟨vo, m, z, rfl, hm, hk, hown, hb⟩
  · refine (rcounts_wrong A l.length c l w rfl hA hr).mono ?_
    rintro e w' ⟨rfl, hb⟩
    rw [cnt_wrong hr]
    exact ⟨_, 0, fun _ => 0, rfl, by omega, ⟨fun p q h1 h2 => by omega, fun x => ⟨fun ⟨i, hi, _⟩ => absurd hi (by omega), fun h => absurd h List.not_mem_nil⟩, fun i hi => by omega⟩, ⟨rfl, .inl ⟨rfl, rfl⟩⟩, hb⟩
/-- Two of Counts' answers are the same. -/
theorem ckeys_same {L : List Int} {n n' : Nat} {z z' : Nat → Int} (h : CKeys L n z) (h' : CKeys L n' z') : n = n' ∧ ∀ j, j < n → z j = z' j := by
  refine keys_same h.1 h'.1 (fun y => ?_)
  constructor
  · rintro ⟨j, hj, rfl⟩
    exact (h'.2.1 ⟨z j, h.2.2 j hj⟩).2 ((h.2.1 ⟨z j, h.2.2 j hj⟩).1 ⟨j, hj, rfl⟩)
  · rintro ⟨j, hj, rfl⟩
    exact (h.2.1 ⟨z' j, h'.2.2 j hj⟩).2 ((h'.2.1 ⟨z' j, h'.2.2 j hj⟩).1 ⟨j, hj, rfl⟩)
theorem CntR.congr {w : World} {A : Option Addr} {n : Nat} {z z' : Nat → Int} {L : List Int} (h : CntR w A n z L) (hz : ∀ j, j < n → z j = z' j) : CntR w A n z' L := fun hn => by
  obtain ⟨g, e, hg, hc⟩ := h hn
  exact ⟨g, e, hg, fun i hi => by rw [← hz i hi]; exact hc i hi⟩
set_option maxRecDepth 100000 in
set_option maxHeartbeats 8000000 in
theorem csame_any (A A' : Option Addr) (n c c' : Nat) (z : Nat → Int) (L : List Int) (w : World) (hn : n ≤ 1000000) (hA : CntR w A n z L) (hB : CntR w A' n z L) :
    Calls Try.prog 24 #[.slice A n c, .slice A' n c'] w fun e w' => e = .returned (.bool true) ∧ Below w.heap.size w w' := by
  have HRA := Lib.hid hA
  have HRB := Lib.hid hB
  clear hA hB
  go_enter Try.func24, Try.ntmps24
  go_wp2_with (fail)
  go_loopw [5] (fun vi wr => ∃ i : Nat, i ≤ n ∧ vi = .int .i64 i ∧ Below w.heap.size w wr) (fun i _ => n - (intOf i).toNat)
  case atStart => exact ⟨0, Nat.zero_le _, rfl, Below.refl _ _⟩
  case round =>
    obtain ⟨i, hin, rfl, hbl⟩ := hrel
    have HBL := Lib.hid hbl
    have hws := hbl.size
    clear hbl
    by_cases hi : i < n
    · have hi0 : (0 : Int) ≤ (i : Int) := by omega
      have hi1 : (i : Int) < (n : Int) := by omega
      obtain ⟨b1, rfl, hb1, hc1⟩ := HRA.out (by omega)
      obtain ⟨b2, rfl, hb2, hc2⟩ := HRB.out (by omega)
      obtain ⟨y0, y1⟩ := hc1 i hi
      obtain ⟨z0, z1⟩ := hc2 i hi
      obtain ⟨p, hp⟩ : ∃ p, z i = p := ⟨_, rfl⟩
      obtain ⟨q, hq⟩ : ∃ q, L.count (z i) = q := ⟨_, rfl⟩
      rw [hq] at y1 z1
      rw [hp] at y0 z0
      have y0 := ext_cell ((HBL.out.cell (p := ⟨b1, i * 2, none⟩) hb1).trans y0)
      have y1 := ext_cell ((HBL.out.cell (p := ⟨b1, i * 2 + 1, none⟩) hb1).trans y1)
      have z0 := ext_cell ((HBL.out.cell (p := ⟨b2, i * 2, none⟩) hb2).trans z0)
      have z1 := ext_cell ((HBL.out.cell (p := ⟨b2, i * 2 + 1, none⟩) hb2).trans z1)
      clear hc1 hc2 hp hq
      go_wp2_with (fail)
      refine wp_region_ext (by kernel_rfl) (by kernel_rfl) ?_
      repeat (go_big_quiet_step (fail))
      refine wpQuiet_nil ?_
      rintro w8 ⟨⟨_, hb8⟩, rfl⟩
      have HB8 := Lib.hid (HBL.out.trans (hb8.mono HBL.out.size))
      clear hb8
      go_wp2_with (fail)
      go_roundw
      case rel => exact ⟨i + 1, by omega, by first | rfl | (push_cast; rfl) | go_num, HB8.out⟩
      case measure => simp [intOf]; omega
    · obtain rfl : n = i := by omega
      go_wp2_with (fail)
      go_ret
      exact ⟨rfl, HBL.out⟩
/-- append of a slice of numbers to a row of the call's own. -/
theorem wpList_append_i {ops : Array Oper} {rest : List Oper} {o : Oper} {a : Act} {Q : Exit → Act → World → Prop} (w : World) (hw : Region.wanted o (yielded ops a.tmps) = true) (s x : Operand)
    (ho : o.op = .call { callee := .builtin .append, args := #[s, x], argTypes := #[38, 38] }) (base n : Nat) (v : Value) (xs : List Value) (hs : a.eval s = v) (hown : w.ownsRow base 23 1 v n xs)
    (A : Option Addr) (m c : Nat) (l : List Value) (hm : l.length = m) (hx : a.eval x = .slice A m c) (hr : ∀ ad, A = some ad → ∀ j u, l[j]? = some u → w.cell? (ad.add j) = some u) (hone : ∀ u ∈ l, u.oneCell' = true) (hnone : A = none → c = 0 ∧ m = 0) (hn : n + m ≤ 1000001) (hbase : base ≤ w.heap.size)
    (h : ∀ v' w', w'.ownsRow base 23 1 v' (n + m) (xs ++ l) → w.grownBy w' v.ownBlock → wpList Try.prog ops Q rest (a.put o.dst v') w') : wpList Try.prog ops Q (o :: rest) a w := by
  obtain ⟨i0, hi, hz0, hz1, hz2⟩ := info_parts i23
  refine wpList_step fun K hK => ?_
  rw [if_pos hw]
  cases A with
  | none =>
    obtain ⟨rfl, rfl⟩ := hnone rfl
    obtain rfl : l = [] := List.length_eq_zero_iff.1 hm
    have hrun := run_append_owned_none (P := Try.prog) (w := w) base 38 o.type 23 i0 1 u38 hi v n xs hown
    unfold Oper.wp
    simp [execOp, ho, resolve, invoke, builtin, hs, hx, hrun, Result.andThen]
    exact hK _ _ (h v w (by simpa using hown) ⟨rfl, rfl, rfl, Nat.le_refl _, fun _ _ _ => rfl⟩)
  | some ad =>
    exact wp_append_own w s x 38 ho base 23 i0 (.int .u64 0) 1 8 u38 hi hz0 hz1 hz2 rfl (by decide) v n xs hs hown ad m c l hx (by omega) (hr ad rfl) hone (by unfold maxLen; omega) (by omega) hbase (fun v' w' h1 h2 _ => hK _ _ (h v' w' h1 h2))
end Go.Proofs.Ytmalcekbhnkfgaa
