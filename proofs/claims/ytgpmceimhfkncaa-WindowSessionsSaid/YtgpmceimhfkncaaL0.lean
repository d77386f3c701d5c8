/- The contract of the law's inner function all: windows merged one behind the other, from the front or from the back. Conditions: as each theorem states them. -/
import Derived.Test.YtgpmceimhfkncaaG3
import Derived.Test.YtgpmceimhfkncaaH0
namespace Go.Proofs.Ytgpmceimhfkncaa
open Go.RowKit
set_option linter.unusedVariables false
set_option linter.unusedSimpArgs false

theorem all_nil (A : Option Addr) (c : Nat) (bk : Bool) (w : World) :
    Calls Try.prog 22 #[.slice A 0 c, .bool bk] w fun e w' => e = .returned (.tuple #[.slice none 0 0, .bool true]) ∧ Below w.heap.size w w' := by
  go_enter Try.func22, Try.ntmps22
  go_wp2
  refine wp_loop_rounds 1 ?_
  rw [rounds_succ]
  go_wp2
  refine bodyPost_ret (v := .tuple #[.slice none 0 0, .bool true]) (by simp only [results, Try.results22]; go_simp) rfl ?_
  exact ⟨rfl, Below.refl _ _⟩

set_option maxHeartbeats 1000000 in
theorem all_front (b off : Nat) (c : Nat) (l : List (Int × Int)) (w : World) (hb : b < w.heap.size) (hpos : 0 < l.length) (hc : l.length ≤ c) (hn : l.length ≤ 1000)
    (hcell : ∀ i, i < l.length → w.cell? ⟨b, off + i * 2, none⟩ = some (.int .i64 (l.getD i (0, 0)).1) ∧ w.cell? ⟨b, off + i * 2 + 1, none⟩ = some (.int .i64 (l.getD i (0, 0)).2))
    (xs : List (Int × Int)) (hxl : xs.length = l.length) (hxs : ∀ k, k < l.length → xs.getD k (0, 0) = l.getD (k) (0, 0)) (L : List (Int × Int)) (ok : Bool) (hv : allV xs = (L, ok)) :
    Calls Try.prog 22 #[.slice (some ⟨b, off, none⟩) l.length c, .bool false] w fun e w' => ∃ A' c', e = .returned (.tuple #[.slice A' L.length c', .bool ok]) ∧ L.length ≤ c' ∧ RdW w' w'.heap.size A' L ∧ Below w.heap.size w w' := by
  have HC := Lib.hid hcell
  have HV := Lib.hid hv
  have HXL := Lib.hid hxl
  have HXS := Lib.hid hxs
  clear hcell hv hxl hxs
  go_enter Try.func22, Try.ntmps22
  go_wp2_with (fail)
  go_loopw [6, 7] (fun vo vi wr => ∃ (k : Nat) (A1 : Option Addr) (c1 : Nat) (F : List (Int × Int)), k ≤ l.length ∧ vi = .int .i64 k ∧ vo = .slice A1 F.length c1 ∧ F.length ≤ c1 ∧ F = foldW (xs.take k) ∧ RdW wr wr.heap.size A1 F ∧ (∀ x ∈ xs.take k, mayB x = true) ∧ Below w.heap.size w wr) (fun _ i _ => l.length - (intOf i).toNat)
  case atStart => exact ⟨0, none, 0, [], Nat.zero_le _, rfl, rfl, Nat.le_refl _, rfl, ⟨by simp, by simp⟩, by simp, Below.refl _ _⟩
  case round =>
    obtain ⟨k, A1, c1, F, hk, rfl, rfl, hc1, hF, hrF, hmk, hbl⟩ := hrel
    by_cases hlt : k < l.length
    · have hbw : b < wr.heap.size := by have := hbl.size; omega
      have hkx : k < xs.length := by have := HXL.out; omega
      have hFl : F.length ≤ 1000 := by
        rw [hF]
        refine Nat.le_trans (foldW_ok hmk).len ?_
        rw [List.length_take]; omega
      have c1a := (hbl.cell (p := ⟨b, off + k * 2, none⟩) hb).trans (HC.out k hlt).1
      have c1b := (hbl.cell (p := ⟨b, off + k * 2 + 1, none⟩) hb).trans (HC.out k hlt).2
      skip
      have hxk := HXS.out k hlt
      skip
      generalize hx : l.getD (k) (0, 0) = x at *
      obtain ⟨x1, x2⟩ := x
      have hms := merge_step hkx hmk
      have hst := fun h => merge_stop (xs := xs) (k := k) h F
      have hav := allV_stop (xs := xs) hkx
      rw [hxk] at hms hst hav
      rw [← hF] at hms
      cases hm : mayB (x1, x2)
      · have hq := hst hm
        have hL : L = [] ∧ ok = false := by have := HV.out; rw [hav hm] at this; simpa using this.symm
        obtain ⟨rfl, rfl⟩ := (show [] = L ∧ false = ok from ⟨hL.1.symm, hL.2.symm⟩)
        have HQ := Lib.hid hq
        have HRF := Lib.hid hrF
        have HBL := Lib.hid hbl
        clear  hx hxk hms hst hav hm hq hL hF hmk hrF hbl
        go_wp2_with (fail)
        refine (merge_any A1 c1 F x1 x2 _ ?_ hc1 (by omega) _ _ _ _ HQ.out).mono ?_
        · exact (HRF.out.below (bl_alloc (Below.refl _ _) _)).more (by simp)
        rintro e w2 ⟨vg, vr, rfl, hg, hr, hb2⟩
        obtain ⟨A2, c2, rfl, hc2, hr2⟩ := own_reads hr
        obtain ⟨A3, c3, rfl, hc3, hr3⟩ := own_reads hg
        clear hg hr
        go_wp2_with (fail)
        refine bodyPost_ret (v := .tuple #[.slice none 0 0, .bool false]) (by simp only [results, Try.results22]; go_simp) rfl ?_
        refine ⟨none, 0, rfl, Nat.le_refl _, ⟨by simp, by simp⟩, ?_⟩
        repeat first | exact HBL.out | exact Below.refl _ _ | refine Below.drew ?_ | refine bl_alloc ?_ _ | refine bl_then ?_ hb2
      · have hq := hms hm
        have hmk2 : ∀ x ∈ xs.take (k + 1), mayB x = true := by
          intro z hz
          rw [take_snoc xs k hkx, hxk] at hz
          rcases List.mem_append.1 hz with hz | hz
          · exact hmk z hz
          · rw [List.mem_singleton] at hz; rw [hz]; exact hm
        have hF2l : (foldW (xs.take (k + 1))).length ≤ 1000 := by
          refine Nat.le_trans (foldW_ok hmk2).len ?_
          rw [List.length_take]; omega
        generalize hF2 : foldW (xs.take (k + 1)) = F2 at *
        generalize oneF (x1, x2) F = o at *
        generalize goneF (x1, x2) F = G at *
        obtain ⟨o1, o2⟩ := o
        have HQ := Lib.hid hq
        have HRF := Lib.hid hrF
        have HBL := Lib.hid hbl
        have HM2 := Lib.hid hmk2
        have HF2 := Lib.hid hF2
        clear  hx hxk hms hst hav hm hq hF hmk hrF hbl hmk2 hF2
        go_wp2_with (fail)
        refine (merge_any A1 c1 F x1 x2 _ ?_ hc1 (by omega) _ _ _ _ HQ.out).mono ?_
        · exact (HRF.out.below (bl_alloc (Below.refl _ _) _)).more (by simp)
        rintro e w2 ⟨vg, vr, rfl, hg, hr, hb2⟩
        obtain ⟨A2, c2, rfl, hc2, hr2⟩ := own_reads hr
        obtain ⟨A3, c3, rfl, hc3, hr3⟩ := own_reads hg
        clear hg hr
        go_wp2_with (fail)
        go_roundw
        case rel =>
          refine ⟨k + 1, A2, c2, F2, hlt, by go_num, rfl, hc2, HF2.out.symm, ?_, HM2.out, ?_⟩
          · exact (hr2.below (bl_alloc (Below.refl _ _) _)).more (by simp)
          · repeat first | exact HBL.out | exact Below.refl _ _ | refine Below.drew ?_ | refine bl_alloc ?_ _ | refine bl_then ?_ hb2
        case measure => simp [intOf]; omega
    · have hkl : k = l.length := by omega
      have hxt : xs.take k = xs := List.take_of_length_le (by have := HXL.out; omega)
      rw [hxt] at hF hmk
      have hL : L = F ∧ ok = true := by
        have := HV.out
        unfold allV at this
        rw [if_pos (List.all_eq_true.2 hmk), ← hF] at this
        simpa using (Prod.mk.inj this).imp Eq.symm Eq.symm
      obtain ⟨rfl, rfl⟩ := (show F = L ∧ true = ok from ⟨hL.1.symm, hL.2.symm⟩)
      have HRF := Lib.hid hrF
      have HBL := Lib.hid hbl
      clear hF hmk hL hrF hbl hxt
      go_wp2_with (fail)
      refine bodyPost_ret (v := .tuple #[.slice A1 F.length c1, .bool true]) (by simp only [results, Try.results22]; go_simp) rfl ?_
      exact ⟨A1, c1, rfl, hc1, HRF.out, HBL.out⟩
set_option maxHeartbeats 1000000 in
theorem all_back (b off : Nat) (c : Nat) (l : List (Int × Int)) (w : World) (hb : b < w.heap.size) (hpos : 0 < l.length) (hc : l.length ≤ c) (hn : l.length ≤ 1000)
    (hcell : ∀ i, i < l.length → w.cell? ⟨b, off + i * 2, none⟩ = some (.int .i64 (l.getD i (0, 0)).1) ∧ w.cell? ⟨b, off + i * 2 + 1, none⟩ = some (.int .i64 (l.getD i (0, 0)).2))
    (xs : List (Int × Int)) (hxl : xs.length = l.length) (hxs : ∀ k, k < l.length → xs.getD k (0, 0) = l.getD (l.length - 1 - k) (0, 0)) (L : List (Int × Int)) (ok : Bool) (hv : allV xs = (L, ok)) :
    Calls Try.prog 22 #[.slice (some ⟨b, off, none⟩) l.length c, .bool true] w fun e w' => ∃ A' c', e = .returned (.tuple #[.slice A' L.length c', .bool ok]) ∧ L.length ≤ c' ∧ RdW w' w'.heap.size A' L ∧ Below w.heap.size w w' := by
  have HC := Lib.hid hcell
  have HV := Lib.hid hv
  have HXL := Lib.hid hxl
  have HXS := Lib.hid hxs
  clear hcell hv hxl hxs
  go_enter Try.func22, Try.ntmps22
  go_wp2_with (fail)
  go_loopw [6, 7] (fun vo vi wr => ∃ (k : Nat) (A1 : Option Addr) (c1 : Nat) (F : List (Int × Int)), k ≤ l.length ∧ vi = .int .i64 k ∧ vo = .slice A1 F.length c1 ∧ F.length ≤ c1 ∧ F = foldW (xs.take k) ∧ RdW wr wr.heap.size A1 F ∧ (∀ x ∈ xs.take k, mayB x = true) ∧ Below w.heap.size w wr) (fun _ i _ => l.length - (intOf i).toNat)
  case atStart => exact ⟨0, none, 0, [], Nat.zero_le _, rfl, rfl, Nat.le_refl _, rfl, ⟨by simp, by simp⟩, by simp, Below.refl _ _⟩
  case round =>
    obtain ⟨k, A1, c1, F, hk, rfl, rfl, hc1, hF, hrF, hmk, hbl⟩ := hrel
    by_cases hlt : k < l.length
    · have hbw : b < wr.heap.size := by have := hbl.size; omega
      have hkx : k < xs.length := by have := HXL.out; omega
      have hFl : F.length ≤ 1000 := by
        rw [hF]
        refine Nat.le_trans (foldW_ok hmk).len ?_
        rw [List.length_take]; omega
      have c1a := (hbl.cell (p := ⟨b, off + k * 2, none⟩) hb).trans (HC.out k hlt).1
      have c1b := (hbl.cell (p := ⟨b, off + k * 2 + 1, none⟩) hb).trans (HC.out k hlt).2
      have c2a := (hbl.cell (p := ⟨b, off + (l.length - 1 - k) * 2, none⟩) hb).trans (HC.out (l.length - 1 - k) (by omega)).1
      have c2b := (hbl.cell (p := ⟨b, off + (l.length - 1 - k) * 2 + 1, none⟩) hb).trans (HC.out (l.length - 1 - k) (by omega)).2
      have g0 : 0 ≤ (l.length : Int) - 1 - (k : Int) := by omega
      have g1 : (l.length : Int) - 1 - (k : Int) < (l.length : Int) := by omega
      have hxk := HXS.out k hlt
      generalize (l.getD k (0, 0)).1 = y1 at c1a
      generalize (l.getD k (0, 0)).2 = y2 at c1b
      generalize hx : l.getD (l.length - 1 - k) (0, 0) = x at *
      obtain ⟨x1, x2⟩ := x
      have hms := merge_step hkx hmk
      have hst := fun h => merge_stop (xs := xs) (k := k) h F
      have hav := allV_stop (xs := xs) hkx
      rw [hxk] at hms hst hav
      rw [← hF] at hms
      cases hm : mayB (x1, x2)
      · have hq := hst hm
        have hL : L = [] ∧ ok = false := by have := HV.out; rw [hav hm] at this; simpa using this.symm
        obtain ⟨rfl, rfl⟩ := (show [] = L ∧ false = ok from ⟨hL.1.symm, hL.2.symm⟩)
        have HQ := Lib.hid hq
        have HRF := Lib.hid hrF
        have HBL := Lib.hid hbl
        clear  hx hxk hms hst hav hm hq hL hF hmk hrF hbl
        go_wp2_with (fail)
        refine (merge_any A1 c1 F x1 x2 _ ?_ hc1 (by omega) _ _ _ _ HQ.out).mono ?_
        · exact (HRF.out.below (bl_alloc (Below.refl _ _) _)).more (by simp)
        rintro e w2 ⟨vg, vr, rfl, hg, hr, hb2⟩
        obtain ⟨A2, c2, rfl, hc2, hr2⟩ := own_reads hr
        obtain ⟨A3, c3, rfl, hc3, hr3⟩ := own_reads hg
        clear hg hr
        go_wp2_with (fail)
        refine bodyPost_ret (v := .tuple #[.slice none 0 0, .bool false]) (by simp only [results, Try.results22]; go_simp) rfl ?_
        refine ⟨none, 0, rfl, Nat.le_refl _, ⟨by simp, by simp⟩, ?_⟩
        repeat first | exact HBL.out | exact Below.refl _ _ | refine Below.drew ?_ | refine bl_alloc ?_ _ | refine bl_then ?_ hb2
      · have hq := hms hm
        have hmk2 : ∀ x ∈ xs.take (k + 1), mayB x = true := by
          intro z hz
          rw [take_snoc xs k hkx, hxk] at hz
          rcases List.mem_append.1 hz with hz | hz
          · exact hmk z hz
          · rw [List.mem_singleton] at hz; rw [hz]; exact hm
        have hF2l : (foldW (xs.take (k + 1))).length ≤ 1000 := by
          refine Nat.le_trans (foldW_ok hmk2).len ?_
          rw [List.length_take]; omega
        generalize hF2 : foldW (xs.take (k + 1)) = F2 at *
        generalize oneF (x1, x2) F = o at *
        generalize goneF (x1, x2) F = G at *
        obtain ⟨o1, o2⟩ := o
        have HQ := Lib.hid hq
        have HRF := Lib.hid hrF
        have HBL := Lib.hid hbl
        have HM2 := Lib.hid hmk2
        have HF2 := Lib.hid hF2
        clear  hx hxk hms hst hav hm hq hF hmk hrF hbl hmk2 hF2
        go_wp2_with (fail)
        refine (merge_any A1 c1 F x1 x2 _ ?_ hc1 (by omega) _ _ _ _ HQ.out).mono ?_
        · exact (HRF.out.below (bl_alloc (Below.refl _ _) _)).more (by simp)
        rintro e w2 ⟨vg, vr, rfl, hg, hr, hb2⟩
        obtain ⟨A2, c2, rfl, hc2, hr2⟩ := own_reads hr
        obtain ⟨A3, c3, rfl, hc3, hr3⟩ := own_reads hg
        clear hg hr
        go_wp2_with (fail)
        go_roundw
        case rel =>
          refine ⟨k + 1, A2, c2, F2, hlt, by go_num, rfl, hc2, HF2.out.symm, ?_, HM2.out, ?_⟩
          · exact (hr2.below (bl_alloc (Below.refl _ _) _)).more (by simp)
          · repeat first | exact HBL.out | exact Below.refl _ _ | refine Below.drew ?_ | refine bl_alloc ?_ _ | refine bl_then ?_ hb2
        case measure => simp [intOf]; omega
    · have hkl : k = l.length := by omega
      have hxt : xs.take k = xs := List.take_of_length_le (by have := HXL.out; omega)
      rw [hxt] at hF hmk
      have hL : L = F ∧ ok = true := by
        have := HV.out
        unfold allV at this
        rw [if_pos (List.all_eq_true.2 hmk), ← hF] at this
        simpa using (Prod.mk.inj this).imp Eq.symm Eq.symm
      obtain ⟨rfl, rfl⟩ := (show F = L ∧ true = ok from ⟨hL.1.symm, hL.2.symm⟩)
      have HRF := Lib.hid hrF
      have HBL := Lib.hid hbl
      clear hF hmk hL hrF hbl hxt
      go_wp2_with (fail)
      refine bodyPost_ret (v := .tuple #[.slice A1 F.length c1, .bool true]) (by simp only [results, Try.results22]; go_simp) rfl ?_
      exact ⟨A1, c1, rfl, hc1, HRF.out, HBL.out⟩
theorem all_any (A : Option Addr) (c : Nat) (l : List (Int × Int)) (bk : Bool) (w : World) (hr : RdW w w.heap.size A l) (hc : l.length ≤ c) (hn : l.length ≤ 1000) (L : List (Int × Int)) (ok : Bool) (hv : allV l = (L, ok)) :
    Calls Try.prog 22 #[.slice A l.length c, .bool bk] w fun e w' => ∃ A' c', e = .returned (.tuple #[.slice A' L.length c', .bool ok]) ∧ L.length ≤ c' ∧ RdW w' w'.heap.size A' L ∧ Below w.heap.size w w' := by
  rcases hr.cases with rfl | ⟨b, off, rfl, hb, hpos, hcell⟩
  · simp [allV, foldW] at hv
    obtain ⟨rfl, rfl⟩ := hv
    exact (all_nil A c bk w).mono fun e w' ⟨he, hb⟩ => ⟨none, 0, he, Nat.le_refl _, ⟨by simp, by simp⟩, hb⟩
  · cases bk
    · exact all_front b off c l w hb hpos hc hn hcell l rfl (fun _ _ => rfl) L ok hv
    · refine all_back b off c l w hb hpos hc hn hcell l.reverse (by simp) (fun k hk => ?_) L ok ?_
      · rw [List.getD_eq_getElem?_getD, List.getD_eq_getElem?_getD, List.getElem?_reverse hk]
      · rw [allV_same (l := l) (m := l.reverse) (fun x => by simp)]
        exact hv
end Go.Proofs.Ytgpmceimhfkncaa
