/- Contract of ref.Same. Conditions: as each theorem states them. -/
import Derived.Test.YtmalcekbhnkfgaaE0
import Derived.Test.YtmalcekbhnkfgaaD2
namespace Go.Proofs.Ytmalcekbhnkfgaa
open Go.RowKit Go.Maps Go.Shelf
set_option linter.unusedVariables false
set_option linter.unusedSimpArgs false

open Classical in
noncomputable def eqP (a b : List Pt) : Bool := decide (sameP a b)
theorem eqP_t {a b : List Pt} (h : sameP a b) : eqP a b = true := by simp [eqP, h]
theorem eqP_f {a b : List Pt} (h : ¬ sameP a b) : eqP a b = false := by simp [eqP, h]
set_option maxRecDepth 100000 in
set_option maxHeartbeats 2000000 in
theorem same_len (A A' : Option Addr) (n n' c c' : Nat) (w : World) (h : n ≠ n') :
    Calls Try.prog 15 #[.slice A n c, .slice A' n' c'] w fun e w' => e = .returned (.bool false) ∧ Below w.heap.size w w' := by
  have hne : ¬ (n : Int) = (n' : Int) := by omega
  have hnb : ((n : Int) == (n' : Int)) = false := by simpa using hne
  go_enter Try.func15, Try.ntmps15
  go_wp2_with (fail)
  go_ret
  exact ⟨rfl, Below.refl _ _⟩
set_option maxRecDepth 100000 in
set_option maxHeartbeats 4000000 in
theorem same_same (A A' : Option Addr) (n c c' : Nat) (a b : List Pt) (w : World) (ha : a.length = n) (hb : b.length = n) (hn : n ≤ 1000000) (hfn : ∀ p ∈ a, p.fs.length ≤ 1000000) (hA : RdP w w.heap.size A a) (hB : RdP w w.heap.size A' b) :
    Calls Try.prog 15 #[.slice A n c, .slice A' n c'] w fun e w' => e = .returned (.bool (eqP a b)) ∧ Below w.heap.size w w' := by
  have HA := Lib.hid ha
  have HB := Lib.hid hb
  have HFN := Lib.hid hfn
  have HRA := Lib.hid hA
  have HRB := Lib.hid hB
  clear ha hb hA hB hfn
  go_enter Try.func15, Try.ntmps15
  go_wp2_with (fail)
  go_loopw [5] (fun vi wr => ∃ i : Nat, i ≤ n ∧ vi = .int .i64 i ∧ (∀ j, j < i → (a.getD j zeroP).id = (b.getD j zeroP).id ∧ (a.getD j zeroP).fs = (b.getD j zeroP).fs) ∧ Below w.heap.size w wr) (fun i _ => n - (intOf i).toNat)
  case atStart => exact ⟨0, Nat.zero_le _, rfl, fun j hj => by omega, Below.refl _ _⟩
  case round =>
    obtain ⟨i, hin, rfl, heq, hbl⟩ := hrel
    have HEQ := Lib.hid heq
    have HBL := Lib.hid hbl
    have hws := hbl.size
    clear heq hbl
    by_cases hi : i < n
    · have hi0 : (0 : Int) ≤ (i : Int) := by omega
      have hi1 : (i : Int) < (n : Int) := by omega
      obtain ⟨b1, o1, rfl, hb1, _, hc1⟩ := HRA.out.1 (by rw [HA.out]; omega)
      obtain ⟨b2, o2, rfl, hb2, _, hc2⟩ := HRB.out.1 (by rw [HB.out]; omega)
      obtain ⟨y0, y1⟩ := hc1 i (by rw [HA.out]; exact hi)
      obtain ⟨z0, z1⟩ := hc2 i (by rw [HB.out]; exact hi)
      have hpa : a.getD i zeroP ∈ a := getP_mem (by rw [HA.out]; exact hi)
      have hfa := (HRA.out.2 _ hpa).1
      have hfb := (HRB.out.2 _ (getP_mem (l := b) (i := i) (by rw [HB.out]; exact hi))).1
      have hf1 := HFN.out _ hpa
      obtain ⟨p, hp⟩ : ∃ p, a.getD i zeroP = p := ⟨_, rfl⟩
      obtain ⟨q, hq⟩ : ∃ q, b.getD i zeroP = q := ⟨_, rfl⟩
      rw [hp] at y0 y1 hfa hf1
      rw [hq] at z0 z1 hfb
      have y0 := ext_cell ((HBL.out.cell (p := ⟨b1, o1 + i * 2, none⟩) hb1).trans y0)
      have y1 := ext_cell ((HBL.out.cell (p := ⟨b1, o1 + i * 2 + 1, none⟩) hb1).trans y1)
      have z0 := ext_cell ((HBL.out.cell (p := ⟨b2, o2 + i * 2, none⟩) hb2).trans z0)
      have z1 := ext_cell ((HBL.out.cell (p := ⟨b2, o2 + i * 2 + 1, none⟩) hb2).trans z1)
      have HS : Hid (∀ X : Ext wr, Calls Try.prog 35 #[.slice p.A p.fs.length p.c, .slice q.A q.fs.length q.c] X.val fun e w' => e = .returned (.bool (eqS p.fs q.fs)) ∧ Below X.val.heap.size X.val w') := Lib.hid fun X => by
        have hX := HBL.out.trans (X.bl.mono hws)
        exact sames_any p.A q.A p.c q.c p.fs q.fs X.val hf1 ((hfa.below hX).more hX.size (Nat.le_refl _)) ((hfb.below hX).more hX.size (Nat.le_refl _))
      have HN : Hid (¬ (p.id = q.id ∧ p.fs = q.fs) → eqP a b = false) := Lib.hid (fun h => eqP_f (fun e => h (by have := e.2 i (by rw [HB.out]; exact hi); rwa [hp, hq] at this)))
      have HY : Hid ((p.id = q.id ∧ p.fs = q.fs) → ∀ j, j < i + 1 → (a.getD j zeroP).id = (b.getD j zeroP).id ∧ (a.getD j zeroP).fs = (b.getD j zeroP).fs) := Lib.hid (fun h j hj => by
        by_cases hji : j = i
        · rw [hji, hp, hq]
          exact h
        · exact HEQ.out j (by omega))
      clear hc1 hc2 hp hq hpa hfa hfb hf1
      by_cases hid : p.id = q.id
      · by_cases hfs : p.fs = q.fs
        · have HV := Lib.hid (HY.out ⟨hid, hfs⟩)
          rw [eqS_t hfs] at HS
          rw [← hid] at z0
          clear hid hfs HN HY
          go_wp2_with (fail)
          refine wp_region_ext (by kernel_rfl) (by kernel_rfl) ?_
          repeat (go_big_quiet_step ((go_at_call 35; exact ext_calls (HS.out _))))
          refine wpQuiet_nil ?_
          rintro w8 ⟨⟨_, hb8⟩, rfl⟩
          have HB8 := Lib.hid (HBL.out.trans (hb8.mono HBL.out.size))
          clear hb8
          go_wp2_with (fail)
          go_roundw
          case rel => exact ⟨i + 1, by omega, by first | rfl | (push_cast; rfl) | go_num, HV.out, HB8.out⟩
          case measure => simp [intOf]; omega
        · have HV := Lib.hid (HN.out (fun h => hfs h.2))
          rw [eqS_f hfs] at HS
          rw [← hid] at z0
          clear hid hfs HN HY
          go_wp2_with (fail)
          refine wp_region_ext (by kernel_rfl) (by kernel_rfl) ?_
          repeat (go_big_quiet_step ((go_at_call 35; exact ext_calls (HS.out _))))
          refine wpQuiet_nil ?_
          rintro w8 ⟨⟨_, hb8⟩, rfl⟩
          have HB8 := Lib.hid (HBL.out.trans (hb8.mono HBL.out.size))
          clear hb8
          go_wp2_with (fail)
          go_ret
          exact ⟨by rw [HV.out]; rfl, HB8.out⟩
      · have HV := Lib.hid (HN.out (fun h => hid h.1))
        obtain ⟨u, hu⟩ : ∃ u, p.id = u := ⟨_, rfl⟩
        obtain ⟨v, hv⟩ : ∃ v, q.id = v := ⟨_, rfl⟩
        rw [hu] at y0 hid
        rw [hv] at z0 hid
        have H0 : Hid ((u != v) = true) := Lib.hid (by simpa using hid)
        clear HN HY hu hv
        go_wp2_with (fail)
        refine wp_region_ext (by kernel_rfl) (by kernel_rfl) ?_
        repeat (first | rw [H0.out] | go_big_quiet_step (fail))
        refine wpQuiet_nil ?_
        rintro w8 ⟨⟨_, hb8⟩, rfl⟩
        have HB8 := Lib.hid (HBL.out.trans (hb8.mono HBL.out.size))
        clear hb8
        go_wp2_with (fail)
        go_ret
        exact ⟨by rw [HV.out]; rfl, HB8.out⟩
    · have hine : n = i := by omega
      subst hine
      have hirr : ¬ (n : Int) < (n : Int) := by omega
      have HV : Hid (eqP a b = true) := Lib.hid (eqP_t ⟨by rw [HA.out, HB.out], fun j hj => HEQ.out j (by rw [← HB.out]; exact hj)⟩)
      go_wp2_with (fail)
      go_ret
      exact ⟨by rw [HV.out]; rfl, HBL.out⟩
theorem same_any (A A' : Option Addr) (c c' : Nat) (a b : List Pt) (w : World) (hn : a.length ≤ 1000000) (hfn : ∀ p ∈ a, p.fs.length ≤ 1000000) (hA : RdP w w.heap.size A a) (hB : RdP w w.heap.size A' b) :
    Calls Try.prog 15 #[.slice A a.length c, .slice A' b.length c'] w fun e w' => e = .returned (.bool (eqP a b)) ∧ Below w.heap.size w w' := by
  by_cases h : a.length = b.length
  · rw [← h]
    exact same_same A A' a.length c c' a b w rfl h.symm hn hfn hA hB
  · rw [eqP_f (fun e => h e.1)]
    exact same_len A A' _ _ c c' w h
end Go.Proofs.Ytmalcekbhnkfgaa
