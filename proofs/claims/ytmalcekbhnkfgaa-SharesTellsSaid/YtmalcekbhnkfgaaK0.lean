/- Contract of the reference's Named. Conditions: as each theorem states them. -/
import Derived.Test.YtmalcekbhnkfgaaJ1
namespace Go.Proofs.Ytmalcekbhnkfgaa
open Go.RowKit Go.Maps Go.Shelf
set_option linter.unusedVariables false
set_option linter.unusedSimpArgs false

/-- How often a number is named. -/
def cn (x : Int) (l : List Pt) : Nat := ((flat 0 l).map (fun y => y.2.nm)).count x
theorem cn_map (x : Int) (k : Nat) (fs : List Sh) : ((fs.map (fun f => (k, f))).map (fun y : Nat × Sh => y.2.nm)) = fs.map Sh.nm := by rw [List.map_map]; rfl
theorem cn_step (x : Int) {l : List Pt} {i : Nat} (hi : i < l.length) : cn x (l.take (i + 1)) = cn x (l.take i) + ((l.getD i zeroP).fs.map Sh.nm).count x := by
  unfold cn
  rw [take_snocP hi, flat_append, List.map_append, List.count_append]
  simp only [flat, List.append_nil]
  rw [cn_map x]
theorem cn_le (x : Int) (l : List Pt) : cn x l ≤ (flat 0 l).length := by
  unfold cn
  have h := List.count_le_length (a := x) (l := (flat 0 l).map (fun y => y.2.nm))
  rwa [List.length_map] at h
theorem cn_right {l : List Pt} (h : RightP l) (x : Int) : (cntL l).count x = cn x l := by
  rw [cnt_right h]
  unfold nums cn
  rw [List.count_reverse]
theorem cnt_wrong {l : List Pt} (h : ¬ RightP l) : cntL l = [] := by unfold cntL; rw [if_neg h]
set_option maxRecDepth 100000 in
set_option maxHeartbeats 8000000 in
theorem named_right (A : Option Addr) (n c : Nat) (l : List Pt) (x : Int) (w : World) (hl : l.length = n) (hA : RdP w w.heap.size A l) (hr : RightP l) :
    Calls Try.prog 39 #[.slice A n c, .int .u64 x] w fun e w' => e = .returned (.int .i64 (cn x l : Nat)) ∧ Below w.heap.size w w' := by
  have HL := Lib.hid hl
  have HA := Lib.hid hA
  have HRP := Lib.hid hr
  have HR := Lib.hid (fun (w' : World) (h : Below w.heap.size w w') => rright_any A c l w' ((hA.below h).more h.size (Nat.le_refl _)))
  rw [hl, rightB_t hr] at HR
  have hn16 : n ≤ 16 := by rw [← hl]; exact hr.1
  clear hl hA hr
  go_enter Try.func39, Try.ntmps39
  go_wp2_with (fail)
  go_loopw [5, 6] (fun vn vi wr => ∃ i y : Nat, i ≤ n ∧ vi = .int .i64 i ∧ vn = .int .i64 y ∧ y = cn x (l.take i) ∧ Below w.heap.size w wr) (fun _ i _ => n - (intOf i).toNat)
  case atStart => exact ⟨0, 0, Nat.zero_le _, rfl, rfl, rfl, Below.refl _ _⟩
  case round =>
    obtain ⟨i, y0, hin, rfl, rfl, hnv, hbl⟩ := hrel
    have HNV := Lib.hid hnv
    have HBL := Lib.hid hbl
    have hws := hbl.size
    clear hnv hbl
    by_cases hi : i < n
    · have hi0 : (0 : Int) ≤ (i : Int) := by omega
      have hi1 : (i : Int) < (n : Int) := by omega
      obtain ⟨pb, po, rfl, hpb, _, hpc⟩ := HA.out.1 (by rw [HL.out]; omega)
      obtain ⟨_, a1⟩ := hpc i (by rw [HL.out]; exact hi)
      obtain ⟨p, hp⟩ : ∃ p, l.getD i zeroP = p := ⟨_, rfl⟩
      rw [hp] at a1
      have HPF := Lib.hid ((HA.out.2 p (by rw [← hp]; exact getP_mem (by rw [HL.out]; exact hi))).1)
      have hpl : p.fs.length ≤ 256 := (HRP.out.2.1 p (by rw [← hp]; exact getP_mem (by rw [HL.out]; exact hi))).2.1
      have HCS := Lib.hid (cn_step x (l := l) (i := i) (by rw [HL.out]; exact hi))
      rw [hp] at HCS
      obtain ⟨pid, pfs, pA, pc⟩ := p
      dsimp only at a1 HPF hpl HCS
      clear hp hpc
      have hcb : cn x (l.take i) ≤ 4096 := by
        have h1 := cn_le x (l.take i)
        have h2 := flat_length_le 0 (l.take i) (fun q hq => (HRP.out.2.1 q (List.mem_of_mem_take hq)).2.1)
        rw [List.length_take] at h2
        have h3 : min i l.length ≤ 16 := by have := HRP.out.1; omega
        have h4 : min i l.length * 256 ≤ 16 * 256 := Nat.mul_le_mul_right _ h3
        omega
      have HCB := Lib.hid hcb
      obtain ⟨y, hy⟩ : ∃ y, cn x (l.take i) = y := ⟨_, rfl⟩
      rw [hy] at hcb HCS HNV
      have HYV : y = y0 := HNV.out.symm
      subst HYV
      clear hy
      obtain ⟨m, hm⟩ : ∃ m, pfs.length = m := ⟨_, rfl⟩
      have HM := Lib.hid hm
      rw [hm] at a1 hpl
      clear hm
      have a1 := (HBL.out.cell (p := ⟨pb, po + i * 2 + 1, none⟩) hpb).trans a1
      have hpw : pb < wr.heap.size := by omega
      go_wp2_with ((go_at_call 17; refine Hid.out ?_))
      refine Lib.hid ?_
      refine (HR.out wr HBL.out).mono ?_
      rintro e w5 ⟨rfl, hb5⟩
      have a1 := (hb5.cell (p := ⟨pb, po + i * 2 + 1, none⟩) hpw).trans a1
      have HB5 := Lib.hid (HBL.out.trans (hb5.mono hws))
      have hz5 := hb5.size
      clear hb5
      go_wp2_with (fail)
      go_loopw [5, 7] (fun vn vk wr2 => ∃ k c : Nat, k ≤ m ∧ vk = .int .i64 k ∧ vn = .int .i64 (y + c : Nat) ∧ c = ((pfs.take k).map Sh.nm).count x ∧ Below w.heap.size w wr2 ∧ w5.heap.size ≤ wr2.heap.size) (fun _ k _ => m - (intOf k).toNat)
      case atStart => exact ⟨0, 0, Nat.zero_le _, rfl, rfl, rfl, HB5.out, Nat.le_refl _⟩
      case round =>
        obtain ⟨k, cc, hkm, rfl, rfl, hcc, hbl2, hz2⟩ := hrel
        have HCC := Lib.hid hcc
        have HBL2 := Lib.hid hbl2
        have hccb : cc ≤ 256 := by
          have h1 := List.count_le_length (a := x) (l := (pfs.take k).map Sh.nm)
          rw [List.length_map, List.length_take] at h1
          have := HM.out
          omega
        have a1 := ((HBL2.out.cell (p := ⟨pb, po + i * 2 + 1, none⟩) hpb)).trans (((HB5.out.cell (p := ⟨pb, po + i * 2 + 1, none⟩) hpb)).symm.trans a1)
        have hpw2 : pb < wr.heap.size := by omega
        clear hcc hbl2
        by_cases hk : k < m
        · have hk0 : (0 : Int) ≤ (k : Int) := by omega
          have hk1 : (k : Int) < (m : Int) := by omega
          obtain ⟨fb, fo, rfl, hfb, _, hfc⟩ := HPF.out (by rw [HM.out]; omega)
          obtain ⟨_, _, _, b3⟩ := hfc k (by rw [HM.out]; exact hk)
          obtain ⟨f, hf⟩ : ∃ f, pfs.getD k zeroS = f := ⟨_, rfl⟩
          have HST := Lib.hid (take_snocS (l := pfs) (i := k) (by rw [HM.out]; exact hk))
          rw [hf] at b3 HST
          have b3 := (HBL2.out.cell (p := ⟨fb, fo + k * 4 + 3, none⟩) hfb).trans b3
          have hfw : fb < wr.heap.size := by omega
          clear hfc hf
          by_cases he : f.nm = x
          · have HC1 : Hid (cc + 1 = ((pfs.take (k + 1)).map Sh.nm).count x) := Lib.hid (by
              rw [HST.out, List.map_append, List.count_append, ← HCC.out]
              simp [he])
            rw [he] at b3
            go_wp2_with (fail)
            go_roundw
            case rel => exact ⟨k + 1, cc + 1, by omega, by first | rfl | (push_cast; rfl) | go_num, by first | rfl | (push_cast; rfl) | (push_cast; congr 1; omega) | go_num, HC1.out, HBL2.out, hz2⟩
            case measure => simp [intOf]; omega
          · have HC1 : Hid (cc = ((pfs.take (k + 1)).map Sh.nm).count x) := Lib.hid (by
              rw [HST.out, List.map_append, List.count_append, ← HCC.out]
              simp [he])
            obtain ⟨q, hq⟩ : ∃ q, f.nm = q := ⟨_, rfl⟩
            rw [hq] at b3 he
            clear hq
            go_wp2_with (fail)
            go_roundw
            case rel => exact ⟨k + 1, cc, by omega, by first | rfl | (push_cast; rfl) | go_num, by first | rfl | (push_cast; rfl) | go_num, HC1.out, HBL2.out, hz2⟩
            case measure => simp [intOf]; omega
        · obtain rfl : m = k := by omega
          have HE2 : Hid (y + cc = cn x (l.take (i + 1))) := Lib.hid (by
            have h := HCC.out
            rw [List.take_of_length_le (by rw [HM.out]; exact Nat.le_refl _)] at h
            rw [HCS.out, h])
          go_wp2_with (fail)
          go_roundw
          case rel => exact ⟨i + 1, y + cc, by omega, by first | rfl | (push_cast; rfl) | go_num, by first | rfl | (push_cast; rfl) | go_num, HE2.out, HBL2.out⟩
          case measure => simp [intOf]; omega
    · obtain rfl : n = i := by omega
      have HE : Hid (y0 = cn x l) := Lib.hid (by
        have h := HNV.out
        rw [List.take_of_length_le (by rw [HL.out]; exact Nat.le_refl _)] at h
        exact h)
      go_wp2_with (fail)
      go_ret
      exact ⟨by rw [HE.out]; rfl, HBL.out⟩
set_option maxRecDepth 100000 in
set_option maxHeartbeats 8000000 in
theorem named_wrong (A : Option Addr) (n c : Nat) (l : List Pt) (x : Int) (w : World) (hl : l.length = n) (hA : RdP w w.heap.size A l) (hr : ¬ RightP l) :
    Calls Try.prog 39 #[.slice A n c, .int .u64 x] w fun e w' => e = .returned (.int .i64 0) ∧ Below w.heap.size w w' := by
  have HR := Lib.hid (rright_any A c l w hA)
  rw [hl, rightB_f hr] at HR
  clear hl hA hr
  go_enter Try.func39, Try.ntmps39
  go_wp2_with (fail)
  go_loopw [5, 6] (fun vn vi wr => vi = .int .i64 0 ∧ vn = .int .i64 0 ∧ wr = w) (fun _ i _ => 0)
  case atStart => exact ⟨rfl, rfl, rfl⟩
  case round =>
    obtain ⟨rfl, rfl, rfl⟩ := hrel
    by_cases hn : 0 < n
    · have hn1 : (0 : Int) < (n : Int) := by omega
      go_wp2_with ((go_at_call 17; refine Hid.out ?_))
      refine Lib.hid ?_
      refine HR.out.mono ?_
      rintro e w5 ⟨rfl, hb5⟩
      go_wp2_with (fail)
      go_ret
      exact ⟨rfl, hb5⟩
    · obtain rfl : n = 0 := by omega
      go_wp2_with (fail)
      go_ret
      exact ⟨rfl, Below.refl _ _⟩
theorem named_any (A : Option Addr) (c : Nat) (l : List Pt) (x : Int) (w : World) (hA : RdP w w.heap.size A l) :
    Calls Try.prog 39 #[.slice A l.length c, .int .u64 x] w fun e w' => e = .returned (.int .i64 ((cntL l).count x : Nat)) ∧ Below w.heap.size w w' := by
  by_cases hr : RightP l
  · rw [cn_right hr]
    exact named_right A l.length c l x w rfl hA hr
  · rw [cnt_wrong hr]
    exact named_wrong A l.length c l x w rfl hA hr
end Go.Proofs.Ytmalcekbhnkfgaa
