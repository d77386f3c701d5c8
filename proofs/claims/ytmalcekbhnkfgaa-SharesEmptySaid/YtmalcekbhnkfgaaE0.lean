/- Contract of ref.SameShares. Conditions: as each theorem states them. -/
import Derived.Test.YtmalcekbhnkfgaaC0
namespace Go.Proofs.Ytmalcekbhnkfgaa
open Go.RowKit Go.Maps Go.Shelf
set_option linter.unusedVariables false
set_option linter.unusedSimpArgs false

open Classical in
noncomputable def eqS (a b : List Sh) : Bool := decide (a = b)
theorem eqS_t {a b : List Sh} (h : a = b) : eqS a b = true := by simp [eqS, h]
theorem eqS_f {a b : List Sh} (h : ¬ a = b) : eqS a b = false := by simp [eqS, h]
set_option maxRecDepth 100000 in
set_option maxHeartbeats 2000000 in
theorem sames_len (A A' : Option Addr) (n n' c c' : Nat) (w : World) (h : n ≠ n') :
    Calls Try.prog 35 #[.slice A n c, .slice A' n' c'] w fun e w' => e = .returned (.bool false) ∧ Below w.heap.size w w' := by
  have hne : ¬ (n : Int) = (n' : Int) := by omega
  have hnb : ((n : Int) == (n' : Int)) = false := by simpa using hne
  go_enter Try.func35, Try.ntmps35
  go_wp2_with (fail)
  go_ret
  exact ⟨rfl, Below.refl _ _⟩
set_option maxRecDepth 100000 in
set_option maxHeartbeats 4000000 in
theorem sames_same (A A' : Option Addr) (n c c' : Nat) (a b : List Sh) (w : World) (ha : a.length = n) (hb : b.length = n) (hn : n ≤ 1000000) (hA : RdS w w.heap.size A a) (hB : RdS w w.heap.size A' b) :
    Calls Try.prog 35 #[.slice A n c, .slice A' n c'] w fun e w' => e = .returned (.bool (eqS a b)) ∧ Below w.heap.size w w' := by
  have HA := Lib.hid ha
  have HB := Lib.hid hb
  have HRA := Lib.hid hA
  have HRB := Lib.hid hB
  clear ha hb hA hB
  go_enter Try.func35, Try.ntmps35
  go_wp2_with (fail)
  go_loopw [5] (fun vi wr => ∃ i : Nat, i ≤ n ∧ vi = .int .i64 i ∧ a.take i = b.take i ∧ Below w.heap.size w wr) (fun i _ => n - (intOf i).toNat)
  case atStart => exact ⟨0, Nat.zero_le _, rfl, by simp, Below.refl _ _⟩
  case round =>
    obtain ⟨i, hin, rfl, heq, hbl⟩ := hrel
    have HEQ := Lib.hid heq
    have HBL := Lib.hid hbl
    have hws := hbl.size
    clear heq hbl
    by_cases hi : i < n
    · have hi0 : (0 : Int) ≤ (i : Int) := by omega
      have hi1 : (i : Int) < (n : Int) := by omega
      obtain ⟨b1, o1, rfl, hb1, _, hc1⟩ := HRA.out (by rw [HA.out]; omega)
      obtain ⟨b2, o2, rfl, hb2, _, hc2⟩ := HRB.out (by rw [HB.out]; omega)
      obtain ⟨y0, y1, y2, y3⟩ := hc1 i (by rw [HA.out]; exact hi)
      obtain ⟨z0, z1, z2, z3⟩ := hc2 i (by rw [HB.out]; exact hi)
      have hsa := take_snocS (l := a) (i := i) (by rw [HA.out]; exact hi)
      have hsb := take_snocS (l := b) (i := i) (by rw [HB.out]; exact hi)
      have hga := getS (l := a) (i := i) (by rw [HA.out]; exact hi)
      have hgb := getS (l := b) (i := i) (by rw [HB.out]; exact hi)
      obtain ⟨f, hf⟩ : ∃ f, a.getD i zeroS = f := ⟨_, rfl⟩
      obtain ⟨g, hg⟩ : ∃ g, b.getD i zeroS = g := ⟨_, rfl⟩
      rw [hf] at y0 y1 y2 y3 hsa hga
      rw [hg] at z0 z1 z2 z3 hsb hgb
      have y0 := ext_cell ((HBL.out.cell (p := ⟨b1, o1 + i * 4, none⟩) hb1).trans y0)
      have y1 := ext_cell ((HBL.out.cell (p := ⟨b1, o1 + i * 4 + 1, none⟩) hb1).trans y1)
      have y2 := ext_cell ((HBL.out.cell (p := ⟨b1, o1 + i * 4 + 2, none⟩) hb1).trans y2)
      have y3 := ext_cell ((HBL.out.cell (p := ⟨b1, o1 + i * 4 + 3, none⟩) hb1).trans y3)
      have z0 := ext_cell ((HBL.out.cell (p := ⟨b2, o2 + i * 4, none⟩) hb2).trans z0)
      have z1 := ext_cell ((HBL.out.cell (p := ⟨b2, o2 + i * 4 + 1, none⟩) hb2).trans z1)
      have z2 := ext_cell ((HBL.out.cell (p := ⟨b2, o2 + i * 4 + 2, none⟩) hb2).trans z2)
      have z3 := ext_cell ((HBL.out.cell (p := ⟨b2, o2 + i * 4 + 3, none⟩) hb2).trans z3)
      have HSA := Lib.hid hsa
      have HSB := Lib.hid hsb
      have HN : Hid (¬ f = g → ¬ a = b) := Lib.hid (fun h e => h (by rw [← hf, ← hg, e]))
      clear hc1 hc2 hf hg hsa hsb hga hgb
      by_cases hfg : f = g
      · subst hfg
        have HV : Hid (a.take (i + 1) = b.take (i + 1)) := Lib.hid (by rw [HSA.out, HSB.out, HEQ.out])
        go_wp2_with (fail)
        refine wp_region_ext (by kernel_rfl) (by kernel_rfl) ?_
        repeat (go_big_quiet_step (fail))
        refine wpQuiet_nil ?_
        rintro w8 ⟨⟨_, hb8⟩, rfl⟩
        have HB8 := Lib.hid (HBL.out.trans (hb8.mono HBL.out.size))
        clear hb8
        go_wp2_with (fail)
        go_roundw
        case rel => exact ⟨i + 1, by omega, by first | rfl | (push_cast; rfl) | go_num, HV.out, HB8.out⟩
        case measure => simp [intOf]; omega
      · have HV : Hid (eqS a b = false) := Lib.hid (eqS_f (HN.out hfg))
        have hpt := sh_parts4 hfg
        clear hfg HN HSA HSB
        obtain ⟨gt, gs, gm, gn, g5, g6, g7, g8⟩ := g
        dsimp only at *
        rcases hpt with hne | ⟨rfl, hne⟩ | ⟨rfl, rfl, hne⟩ | ⟨rfl, rfl, rfl, hne⟩
        · go_wp2_with (fail)
          refine wp_region_ext (by kernel_rfl) (by kernel_rfl) ?_
          repeat (go_big_quiet_step (fail))
          refine wpQuiet_nil ?_
          rintro w8 ⟨⟨_, hb8⟩, rfl⟩
          have HB8 := Lib.hid (HBL.out.trans (hb8.mono HBL.out.size))
          clear hb8
          go_wp2_with (fail)
          go_ret
          exact ⟨by rw [HV.out]; rfl, HB8.out⟩
        · go_wp2_with (fail)
          refine wp_region_ext (by kernel_rfl) (by kernel_rfl) ?_
          repeat (go_big_quiet_step (fail))
          refine wpQuiet_nil ?_
          rintro w8 ⟨⟨_, hb8⟩, rfl⟩
          have HB8 := Lib.hid (HBL.out.trans (hb8.mono HBL.out.size))
          clear hb8
          go_wp2_with (fail)
          go_ret
          exact ⟨by rw [HV.out]; rfl, HB8.out⟩
        · go_wp2_with (fail)
          refine wp_region_ext (by kernel_rfl) (by kernel_rfl) ?_
          repeat (go_big_quiet_step (fail))
          refine wpQuiet_nil ?_
          rintro w8 ⟨⟨_, hb8⟩, rfl⟩
          have HB8 := Lib.hid (HBL.out.trans (hb8.mono HBL.out.size))
          clear hb8
          go_wp2_with (fail)
          go_ret
          exact ⟨by rw [HV.out]; rfl, HB8.out⟩
        · go_wp2_with (fail)
          refine wp_region_ext (by kernel_rfl) (by kernel_rfl) ?_
          repeat (go_big_quiet_step (fail))
          refine wpQuiet_nil ?_
          rintro w8 ⟨⟨_, hb8⟩, rfl⟩
          have HB8 := Lib.hid (HBL.out.trans (hb8.mono HBL.out.size))
          clear hb8
          go_wp2_with (fail)
          go_ret
          exact ⟨by rw [HV.out]; rfl, HB8.out⟩
    · have hine : n = i := by omega
      subst hine
      have hirr : ¬ (n : Int) < (n : Int) := by omega
      have HV : Hid (eqS a b = true) := Lib.hid (eqS_t (by have := HEQ.out; rwa [List.take_of_length_le (by rw [HA.out]; exact Nat.le_refl _), List.take_of_length_le (by rw [HB.out]; exact Nat.le_refl _)] at this))
      go_wp2_with (fail)
      go_ret
      exact ⟨by rw [HV.out]; rfl, HBL.out⟩
theorem sames_any (A A' : Option Addr) (c c' : Nat) (a b : List Sh) (w : World) (hn : a.length ≤ 1000000) (hA : RdS w w.heap.size A a) (hB : RdS w w.heap.size A' b) :
    Calls Try.prog 35 #[.slice A a.length c, .slice A' b.length c'] w fun e w' => e = .returned (.bool (eqS a b)) ∧ Below w.heap.size w w' := by
  by_cases h : a.length = b.length
  · rw [← h]
    exact sames_same A A' a.length c c' a b w rfl h.symm hn hA hB
  · rw [eqS_f (fun e => h (by rw [e]))]
    exact sames_len A A' _ _ c c' w h
end Go.Proofs.Ytmalcekbhnkfgaa
