/- Contract of the reference's Loose. Conditions: as each theorem states them. -/
import Derived.Test.YtmalcekbhnkfgaaK0
namespace Go.Proofs.Ytmalcekbhnkfgaa
open Go.RowKit Go.Maps Go.Shelf
set_option linter.unusedVariables false
set_option linter.unusedSimpArgs false

set_option maxRecDepth 100000 in
set_option maxHeartbeats 8000000 in
theorem rloose_len (A : Option Addr) (n c : Nat) (l : List Pt) (As : Option Addr) (ns cs : Nat) (ss : List Int) (w : World) (hl : l.length = n) (hA : RdP w w.heap.size A l) (hS : RdI w w.heap.size As ss) (hls : ss.length = ns) (hn : ns ≤ 1000000) :
    Calls Try.prog 21 #[.slice A n c, .slice As ns cs] w fun e w' => ∃ vo, e = .returned vo ∧ w'.ownsRow w.heap.size 23 1 vo (notIn (cntL l) ss).length (icells (notIn (cntL l) ss)) ∧ Below w.heap.size w w' := by
  obtain ⟨i0, hi, hz0, hz1, hz2⟩ := info_parts i23
  have HC := Lib.hid (fun (x : Int) (w' : World) (h : Below w.heap.size w w') => named_any A c l x w' ((hA.below h).more h.size (Nat.le_refl _)))
  rw [hl] at HC
  have HCL := Lib.hid (cnt_len l)
  have HS := Lib.hid hS
  have HLS := Lib.hid hls
  generalize cntL l = L at *
  clear hA hS hls hl
  go_enter Try.func21, Try.ntmps21
  go_wp2_with (fail)
  go_loopw [5, 6] (fun vo vi wr => ∃ i : Nat, i ≤ ns ∧ vi = .int .i64 i ∧ wr.ownsRow w.heap.size 23 1 vo (notIn L (ss.take i)).length (icells (notIn L (ss.take i))) ∧ Below w.heap.size w wr) (fun _ i _ => ns - (intOf i).toNat)
  case atStart => exact ⟨0, Nat.zero_le _, rfl, ⟨rfl, .inl ⟨rfl, rfl⟩⟩, Below.refl _ _⟩
  case round =>
    obtain ⟨i, hin, rfl, hown, hbl⟩ := hrel
    have HOWN := Lib.hid hown
    have HBL := Lib.hid hbl
    have hws := hbl.size
    by_cases hi' : i < ns
    · have hi0 : (0 : Int) ≤ (i : Int) := by omega
      have hi1 : (i : Int) < (ns : Int) := by omega
      obtain ⟨b, off, rfl, hb, _, hc⟩ := HS.out.1 (by rw [HLS.out]; omega)
      have a0 := hc i (by rw [HLS.out]; exact hi')
      have hsn := take_snocI (l := ss) (i := i) (by rw [HLS.out]; exact hi')
      obtain ⟨x, hx⟩ : ∃ x, ss.getD i 0 = x := ⟨_, rfl⟩
      rw [hx] at a0 hsn
      have A0 := Lib.hid a0
      have a0 := (hbl.cell (p := ⟨b, off + i, none⟩) hb).trans a0
      have hbw : b < wr.heap.size := by omega
      have hnl : (notIn L (ss.take i)).length ≤ i := by have := notIn_length L (ss.take i); rw [List.length_take] at this; omega
      have HSN := Lib.hid hsn
      have HNL := Lib.hid hnl
      clear hc hx hsn hown hbl hnl
      go_wp2_with ((go_at_call 39; refine Hid.out ?_))
      refine Lib.hid ?_
      refine (HC.out x wr HBL.out).mono ?_
      rintro e w2 ⟨rfl, hb2⟩
      have HO2 := Lib.hid (own_new HOWN.out hb2)
      have HB2 := Lib.hid (HBL.out.trans (hb2.mono hws))
      have hzw := hb2.size
      have a0 := (HB2.out.cell (p := ⟨b, off + i, none⟩) hb).trans A0.out
      have hbw : b < w2.heap.size := by omega
      clear hb2
      by_cases hxL : x ∈ L
      · have hq : 0 < L.count x := List.count_pos_iff.2 hxL
        obtain ⟨q, hqe⟩ : ∃ q, L.count x = q := ⟨_, rfl⟩
        rw [hqe] at hq ⊢
        have hq0 : ¬ ((q : Int) = 0) := by omega
        have HE : Hid (notIn L (ss.take (i + 1)) = notIn L (ss.take i)) := Lib.hid (by rw [HSN.out, notIn_snoc, if_pos hxL])
        clear hqe hxL hq
        go_wp2_with (fail)
        go_roundw
        case rel => exact ⟨i + 1, by omega, by first | rfl | (push_cast; rfl) | go_num, by rw [HE.out]; exact HO2.out, HB2.out⟩
        case measure => simp [intOf]; omega
      · have hq : L.count x = 0 := List.count_eq_zero.2 hxL
        rw [hq]
        have HE : Hid (notIn L (ss.take (i + 1)) = notIn L (ss.take i) ++ [x]) := Lib.hid (by rw [HSN.out, notIn_snoc, if_neg hxL])
        clear hxL hq
        go_wp2_with ((at_builtin; refine Hid.out ?_))
        refine Lib.hid ?_
        have hbA : Below w2.heap.size w2 (w2.alloc (Obj.cells #[Value.int .u64 x] 23)) := bl_alloc (Below.refl _ _) _
        refine wpList_append_own _ rfl _ _ 38 rfl w.heap.size 23 i0 (.int .u64 0) 1 8 u38 hi hz0 hz1 hz2 rfl (by decide) _ (notIn L (ss.take i)).length (icells (notIn L (ss.take i))) rfl (own_new HO2.out hbA) ⟨w2.heap.size, 0, none⟩ 1 1 [.int .u64 x] rfl rfl (cell_one_new _ _ _) (by simp [Value.oneCell']) (by have := HNL.out; unfold maxLen; omega) (by have := HNL.out; omega) (by simp; omega) ?_
        intro v' w3 hown3 hgrow3 _
        have hb3 : Below w.heap.size w w3 := (HB2.out.trans (hbA.mono (by omega))).grown hgrow3 (by simp; omega) (own_ge HO2.out)
        have HO3 : Hid (w3.ownsRow w.heap.size 23 1 v' (notIn L (ss.take (i + 1))).length (icells (notIn L (ss.take (i + 1))))) := Lib.hid (by
          rw [HE.out]
          simpa [icells] using hown3)
        have HB3 := Lib.hid hb3
        clear hown3 hgrow3 hb3 hbA
        go_wp2_with (fail)
        go_roundw
        case rel => exact ⟨i + 1, by omega, by first | rfl | (push_cast; rfl) | go_num, HO3.out, HB3.out⟩
        case measure => simp [intOf]; omega
    · have hine : i = ns := by omega
      subst hine
      have hirr : ¬ (i : Int) < (i : Int) := by omega
      have HO : Hid (wr.ownsRow w.heap.size 23 1 u5 (notIn L ss).length (icells (notIn L ss))) := Lib.hid (by
        have h := HOWN.out
        rwa [List.take_of_length_le (by rw [HLS.out]; exact Nat.le_refl _)] at h)
      clear hown hbl
      go_wp2_with (fail)
      go_ret
      exact ⟨_, rfl, HO.out, HBL.out⟩
theorem rloose_any (A : Option Addr) (c : Nat) (l : List Pt) (As : Option Addr) (ns cs : Nat) (ss : List Int) (w : World) (hA : RdP w w.heap.size A l) (hS : RdI w w.heap.size As ss) (hls : ss.length = ns) (hn : ns ≤ 1000000) :
    Calls Try.prog 21 #[.slice A l.length c, .slice As ns cs] w fun e w' => ∃ vo, e = .returned vo ∧ w'.ownsRow w.heap.size 23 1 vo (notIn (cntL l) ss).length (icells (notIn (cntL l) ss)) ∧ Below w.heap.size w w' :=
  rloose_len A l.length c l As ns cs ss w rfl hA hS hls hn
end Go.Proofs.Ytmalcekbhnkfgaa
