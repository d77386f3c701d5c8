/- Contract of model.told at every aggregate. Conditions: as each theorem states them. -/
import Derived.Test.YtfojblbnhapedaaGreatDoorX2
import Derived.Test.YtfojblbnhapedaaGreatDoorSh2
import Derived.Test.YtfojblbnhapedaaGreatDoorSh3
import Derived.Lib.ItoaLen
import Derived.Sort.OwnSortedInts
import Derived.Laws.ComplexArith
namespace Go.Proofs.YtfojblbnhapedaaGreatDoor
open Go.RowKit Go.Maps
set_option linter.unusedVariables false
set_option linter.unusedSimpArgs false

/-- A number as a text. -/
def num (n : Int) : ByteArray := ⟨(Lib.itoa n).toArray⟩
theorem fmt10 (n : Int) (h : i64 n) (w : World) (ht : Tab w) : Calls Tryz.prog 148 #[.int .i64 n, .int .i64 10] w fun e w' => e = .returned (.string (num n)) ∧ Below w.heap.size w w' := by
  have hc := Any.strconv_FormatInt_10 Tryz.laysM173 n h.1 (by have := h.2; omega) w ht
  change Calls Tryz.prog 148 _ _ _ at hc
  refine hc.mono fun e w' ⟨he, k, os, hw⟩ => ⟨he, ?_⟩
  have hg : Gr w w' := ⟨k, os, hw⟩
  exact hg.below
set_option maxRecDepth 100000 in
set_option maxHeartbeats 4000000 in
theorem number_all (n : Int) (h : i64 n) (w : World) (ht : Tab w) : Calls Tryz.prog 123 #[.int .i64 n] w fun e w' => e = .returned (.string (num n)) ∧ Below w.heap.size w w' := by
  have HS := Lib.hid (fmt10 n h w ht)
  clear h ht
  go_enter Tryz.func123, Tryz.ntmps123
  go_wp2_with (fail)
  refine HS.out.mono ?_
  rintro e w' ⟨rfl, hb⟩
  have HB := Lib.hid hb
  clear hb
  go_wp2_with (fail)
  go_ret
  exact ⟨rfl, HB.out⟩
/-- What a row of values gives. -/
structure RowC (w : World) (b n c : Nat) (vs : List Int) : Prop where
  ln : n = vs.length
  pos : 0 < n
  nc : n ≤ c
  cm : c ≤ maxLen
  lt : b < w.heap.size
  cell : ∀ k (h : k < vs.length), w.cell? ⟨b, k, none⟩ = some (.int .i64 vs[k])
theorem row_c {w : World} {r : Rw} {vs : List Int} (h : RowAt w r vs) : RowC w r.b r.n r.c vs := by
  obtain ⟨ho, hn, hp⟩ := h
  obtain ⟨A, c, hv, hnc, hcm, hr⟩ := own_read ho (by decide)
  obtain ⟨g, rfl, _, hg, _, hx⟩ := hr hp
  unfold rwV at hv
  injection hv with h1 h2 h3
  injection h1 with h1
  injection h1 with h1
  subst h1 h3
  exact ⟨hn, hp, hnc, hcm, hg, fun k hk => hx k _ (by unfold icells; rw [List.getElem?_map, List.getElem?_eq_getElem hk]; rfl)⟩
theorem RowC.below {w w' : World} {b n c : Nat} {vs : List Int} (h : RowC w b n c vs) (k : Below w.heap.size w w') : RowC w' b n c vs :=
  ⟨h.ln, h.pos, h.nc, h.cm, Nat.lt_of_lt_of_le h.lt k.size, fun i hi => (k.cell h.lt).trans (h.cell i hi)⟩
set_option maxRecDepth 100000 in
set_option maxHeartbeats 4000000 in
theorem count_all (b n c : Nat) (vs : List Int) (w : World) (h : RowC w b n c vs) (hl : vs.length ≤ 100) (ht : Tab w) : Calls Tryz.prog 93 #[.slice (some ⟨b, 0, none⟩) n c] w fun e w' => e = .returned (.string (num vs.length)) ∧ Below w.heap.size w w' := by
  have hn := h.ln
  subst hn
  have HS := Lib.hid (number_all vs.length ⟨by omega, by omega⟩ w ht)
  clear ht h
  go_enter Tryz.func93, Tryz.ntmps93
  go_wp2_with (fail)
  refine HS.out.mono ?_
  rintro e w' ⟨rfl, hb⟩
  have HB := Lib.hid hb
  clear hb
  go_wp2_with (fail)
  go_ret
  exact ⟨rfl, HB.out⟩
set_option maxRecDepth 100000 in
set_option maxHeartbeats 4000000 in
theorem last_all (b n c : Nat) (vs : List Int) (w : World) (h : RowC w b n c vs) (hl : vs.length ≤ 100) (hv : ∀ x ∈ vs, i64 x) (ht : Tab w) : Calls Tryz.prog 97 #[.slice (some ⟨b, 0, none⟩) n c] w fun e w' => e = .returned (.string (num (vs.getLastD 0))) ∧ Below w.heap.size w w' := by
  obtain ⟨hn, hp, hnc, hcm, hlt, hx⟩ := h
  obtain ⟨m, rfl⟩ : ∃ m, n = m + 1 := ⟨n - 1, by omega⟩
  have hlast : vs.getLastD 0 = vs[m]'(by omega) := by
    rw [List.getLastD_eq_getLast?, List.getLast?_eq_getElem?, List.getElem?_eq_getElem (by omega)]
    simp [← hn]
  have hm : vs[m]'(by omega) ∈ vs := List.getElem_mem _
  have HS := Lib.hid (number_all _ (hv _ hm) w ht)
  have c1 := hx m (by omega)
  have hm2 : m < 100 := by omega
  rw [hlast]
  generalize vs[m]'(by omega) = x at *
  clear ht hv hm hx hlast hn hl hp
  go_enter Tryz.func97, Tryz.ntmps97
  go_wp2_with (fail)
  refine HS.out.mono ?_
  rintro e w' ⟨rfl, hb⟩
  have HB := Lib.hid hb
  clear hb
  go_wp2_with (fail)
  go_ret
  exact ⟨rfl, HB.out⟩
def sumS (a x : Int) : Int := wrap64 (a + x)
def sumF (vs : List Int) : Int := vs.foldl sumS 0
theorem sumF_take (vs : List Int) (k : Nat) (h : k < vs.length) : sumF (vs.take (k + 1)) = wrap64 (sumF (vs.take k) + vs[k]) := by
  unfold sumF
  rw [List.take_succ_eq_append_getElem h, List.foldl_append]
  rfl
theorem sumF_i64 (vs : List Int) : i64 (sumF vs) := by
  have h : ∀ (l : List Int) (a : Int), i64 a → i64 (l.foldl sumS a) := by
    intro l
    induction l with
    | nil => exact fun a h => h
    | cons x l ih => exact fun a h => ih _ (by unfold sumS i64 wrap64; omega)
  exact h vs 0 ⟨by omega, by omega⟩
set_option maxRecDepth 100000 in
set_option maxHeartbeats 4000000 in
theorem sum_all (b n c : Nat) (vs : List Int) (w : World) (h : RowC w b n c vs) (hl : vs.length ≤ 100) (hv : ∀ x ∈ vs, i64 x) (ht : Tab w) : Calls Tryz.prog 94 #[.slice (some ⟨b, 0, none⟩) n c] w fun e w' => e = .returned (.string (num (sumF vs))) ∧ Below w.heap.size w w' := by
  obtain ⟨hn, hp, hnc, hcm, hlt, hx⟩ := h
  subst hn
  have HX := Lib.hid hx
  have HN : Hid (Calls Tryz.prog 123 #[.int .i64 (sumF vs)] w fun e w' => e = .returned (.string (num (sumF vs))) ∧ Below w.heap.size w w') := Lib.hid (number_all _ (sumF_i64 vs) w ht)
  have HV := Lib.hid hv
  clear hx ht hv hp
  go_enter Tryz.func94, Tryz.ntmps94
  go_wp2_with (fail)
  go_loopw [3, 8] (fun v i wr => ∃ k : Nat, k ≤ vs.length ∧ i = .int .i64 k ∧ v = .int .i64 (sumF (vs.take k)) ∧ wr = w) (fun _ i _ => vs.length - (intOf i).toNat)
  case atStart => exact ⟨0, Nat.zero_le _, rfl, rfl, rfl⟩
  case round =>
    obtain ⟨k, hk, rfl, rfl, rfl⟩ := hrel
    by_cases hlt2 : k < vs.length
    · have c1 := HX.out k hlt2
      have hs := sumF_take vs k hlt2
      have hr := sumF_i64 (vs.take k)
      have hr2 := HV.out vs[k] (List.getElem_mem _)
      unfold i64 at hr hr2
      generalize vs[k] = x at *
      generalize hso : sumF (vs.take k) = so at *
      go_wp2
      exact ⟨⟨k + 1, hlt2, by push_cast; rfl, by rw [hs], trivial⟩, by simp only [intOf]; omega⟩
    · have hke : k = vs.length := by omega
      subst hke
      rw [List.take_length]
      go_wp2_with (fail)
      refine HN.out.mono ?_
      rintro e w' ⟨rfl, hb⟩
      have HB := Lib.hid hb
      clear hb
      go_wp2_with (fail)
      go_ret
      exact ⟨rfl, HB.out⟩
theorem getD_row {w : World} {b n c : Nat} {vs : List Int} (h : RowC w b n c vs) : ∀ j, j < vs.length → w.cell? ⟨b, 0 + j, none⟩ = some (.int .i64 (vs.getD j 0)) := fun j hj => by
  rw [Nat.zero_add, h.cell j hj]
  simp [List.getElem?_eq_getElem hj]
set_option maxRecDepth 100000 in
set_option maxHeartbeats 4000000 in
theorem min_all (b n c : Nat) (vs : List Int) (w : World) (h : RowC w b n c vs) (hl : vs.length ≤ 100) (hv : i64 (Lib.minOf (vs.take n))) (ht : Tab w) : Calls Tryz.prog 95 #[.slice (some ⟨b, 0, none⟩) n c] w fun e w' => e = .returned (.string (num (Lib.minOf (vs.take n)))) ∧ Below w.heap.size w w' := by
  have HM := Lib.hid (AnyG.slices_Min_int Tryz.vmin b 0 n c vs w h.pos (by rw [h.ln]; exact Nat.le_refl _) (by have := h.ln; omega) (getD_row h))
  have HS := Lib.hid (number_all _ hv w ht)
  clear h ht hv
  go_enter Tryz.func95, Tryz.ntmps95
  go_wp2_with (fail)
  refine HM.out.mono ?_
  rintro e w' ⟨rfl, rfl⟩
  go_wp2_with (fail)
  refine HS.out.mono ?_
  rintro e w' ⟨rfl, hb⟩
  have HB := Lib.hid hb
  clear hb
  go_wp2_with (fail)
  go_ret
  exact ⟨rfl, HB.out⟩
set_option maxRecDepth 100000 in
set_option maxHeartbeats 4000000 in
theorem max_all (b n c : Nat) (vs : List Int) (w : World) (h : RowC w b n c vs) (hl : vs.length ≤ 100) (hv : i64 (Lib.maxOf (vs.take n))) (ht : Tab w) : Calls Tryz.prog 96 #[.slice (some ⟨b, 0, none⟩) n c] w fun e w' => e = .returned (.string (num (Lib.maxOf (vs.take n)))) ∧ Below w.heap.size w w' := by
  have HM := Lib.hid (AnyG.slices_Max_int Tryz.vmax b 0 n c vs w h.pos (by rw [h.ln]; exact Nat.le_refl _) (by have := h.ln; omega) (getD_row h))
  have HS := Lib.hid (number_all _ hv w ht)
  clear h ht hv
  go_enter Tryz.func96, Tryz.ntmps96
  go_wp2_with (fail)
  refine HM.out.mono ?_
  rintro e w' ⟨rfl, rfl⟩
  go_wp2_with (fail)
  refine HS.out.mono ?_
  rintro e w' ⟨rfl, hb⟩
  have HB := Lib.hid hb
  clear hb
  go_wp2_with (fail)
  go_ret
  exact ⟨rfl, HB.out⟩
end Go.Proofs.YtfojblbnhapedaaGreatDoor
namespace Go.Proofs.YtfojblbnhapedaaGreatDoor
open Go.RowKit Go.Maps
set_option linter.unusedVariables false
set_option linter.unusedSimpArgs false

def tcells (l : List Int) : List Value := l.map fun x => .string (num x)
theorem tcells_app (a b : List Int) : tcells (a ++ b) = tcells a ++ tcells b := by unfold tcells; simp
theorem u43 : Tryz.prog.underlying 43 = some (.slice 9) := by kernel_rfl
theorem i9r : (Tryz.prog.info? 9).map (fun i => (i.zero, i.size, i.bytes)) = some (some (.string ByteArray.empty), 1, 16) := by kernel_rfl
/-- A list as a text. -/
def listF (vs : List Int) : ByteArray := ⟨(Lib.join ((vs.take 64).map fun x => Lib.itoa x) [44]).toArray⟩
theorem tail_le (sep : List UInt8) (hs : sep.length ≤ 1) : ∀ l : List (List UInt8), (∀ x ∈ l, x.length ≤ 21) → (Lib.joinTail sep l).length ≤ 22 * l.length
  | [], _ => by simp [Lib.joinTail]
  | x :: l, h => by
    have ih := tail_le sep hs l fun y hy => h y (List.mem_cons_of_mem _ hy)
    have h1 := h x (List.mem_cons_self ..)
    unfold Lib.joinTail at ih ⊢
    simp only [List.map_cons, List.flatten_cons, List.length_append, List.length_cons] at ih ⊢
    omega
theorem join_le (sep : List UInt8) (hs : sep.length ≤ 1) : ∀ l : List (List UInt8), (∀ x ∈ l, x.length ≤ 21) → (Lib.join l sep).length ≤ 22 * l.length
  | [], _ => by simp [Lib.join_nil]
  | x :: l, h => by
    rw [Lib.join_cons]
    have h1 := h x (List.mem_cons_self ..)
    have h2 := tail_le sep hs l fun y hy => h y (List.mem_cons_of_mem _ hy)
    simp only [List.length_append, List.length_cons]
    omega
theorem join_any (g c : Nat) (l : List Int) (w : World) (hl : l.length ≤ 64) (hc : l.length ≤ c) (hg : g < w.heap.size) (hv : ∀ x ∈ l, i64 x) (hx : ∀ (j : Nat) x, l[j]? = some x → w.cell? ⟨g, j, none⟩ = some (.string (num x))) :
    Calls Tryz.prog 126 #[.slice (some ⟨g, 0, none⟩) l.length c, .string ⟨#[44]⟩] w fun e w' => e = .returned (.string ⟨(Lib.join (l.map fun x => Lib.itoa x) [44]).toArray⟩) ∧ Below w.heap.size w w' := by
  have e1 : (l.map num).map (fun x => x.data.toList) = l.map fun x => Lib.itoa x := by
    rw [List.map_map]
    refine List.map_congr_left fun x _ => ?_
    show (Lib.itoa x).toArray.toList = Lib.itoa x
    simp
  have hj := Any.strings_Join Tryz.lays156 Tryz.Builder_Extra_156 g 0 c (l.map num) ⟨#[44]⟩ w (fun j x hx2 => by
    rw [List.getElem?_map] at hx2
    obtain ⟨y, hy, rfl⟩ := Option.map_eq_some_iff.1 hx2
    rw [Nat.zero_add]
    exact hx j y hy) hg (by rw [List.length_map]; omega) (by rw [List.length_map]; exact hc) (by
    rw [e1]
    refine Nat.le_trans (join_le _ (by decide) _ (fun x hx => ?_)) (by rw [List.length_map]; omega)
    obtain ⟨y, hy, rfl⟩ := List.mem_map.1 hx
    exact Lib.itoa_length_le y (hv y hy).1 (by have := (hv y hy).2; omega))
  change Calls Tryz.prog 126 _ _ _ at hj
  rw [e1, List.length_map] at hj
  exact hj
set_option maxRecDepth 100000 in
set_option maxHeartbeats 4000000 in
theorem list_all (b n c m : Nat) (vs : List Int) (w : World) (h : RowC w b n c vs) (hl : vs.length ≤ 100) (hv : ∀ x ∈ vs, i64 x) (ht : Tab w) (hm : (n ≤ 64 ∧ m = n) ∨ (64 < n ∧ m = 64)) : Calls Tryz.prog 98 #[.slice (some ⟨b, 0, none⟩) n c] w fun e w' => e = .returned (.string (listF vs)) ∧ Below w.heap.size w w' := by
  have HR := Lib.hid h
  obtain ⟨hn, hp, hnc, hcm, hlt, hx⟩ := h
  unfold maxLen at hcm
  have HT := Lib.hid ht
  have HV := Lib.hid hv
  have hml : m ≤ n := by omega
  have hmin : min (n : Int) 64 = (m : Int) := by omega
  have h0 : 0 < m := by omega
  have HX := Lib.hid hx
  have hml2 : m ≤ 64 := by omega
  have HN0 := Lib.hid hn
  have HM := Lib.hid hm
  have hl' : n ≤ 100 := by omega
  clear hx ht hv hm hn hl
  go_enter Tryz.func98, Tryz.ntmps98
  go_wp2_with (fail)
  go_loopw [3, 12] (fun v i wr => ∃ k : Nat, k ≤ m ∧ i = .int .i64 k ∧ wr.ownsRow w.heap.size 9 1 v k (tcells (vs.take k)) ∧ Below w.heap.size w wr) (fun _ i _ => m - (intOf i).toNat)
  case atStart => exact ⟨0, Nat.zero_le _, rfl, World.ownsRow_nil _ _ _ _, Below.refl _ _⟩
  case round =>
    obtain ⟨k, hk, rfl, hown, hbl⟩ := hrel
    by_cases hlt2 : k < m
    · have hkv : k < vs.length := by have := HN0.out; omega
      have c1 := (hbl.cell hlt).trans (HX.out k hkv)
      have HN := Lib.hid (number_all vs[k] (HV.out _ (List.getElem_mem _)) wr (HT.out.below hbl))
      have HTS : Hid (vs.take (k + 1) = vs.take k ++ [vs[k]]) := Lib.hid (List.take_succ_eq_append_getElem hkv)
      have HO := Lib.hid hown
      have HB := Lib.hid hbl
      have hk64 : k < 64 := by omega
      generalize vs[k] = x at *
      clear hown hbl
      go_wp2_with (fail)
      refine HN.out.mono ?_
      rintro e w2 ⟨rfl, hb2⟩
      have HB2 := Lib.hid (bl_then HB.out hb2)
      have HO2 := Lib.hid (own_below HO.out hb2)
      have hba := bl_alloc (Below.refl w2.heap.size w2) (Obj.cells #[.string (num x)] 9)
      have HB3 := Lib.hid (bl_then HB2.out hba)
      have HO3 := Lib.hid (own_below HO2.out hba)
      have HNR : Hid ((w2.alloc (Obj.cells #[.string (num x)] 9)).ownsRow 0 9 1 (.slice (some ⟨w2.heap.size, 0, none⟩) 1 1) 1 [.string (num x)]) := Lib.hid (own_one (news := [.string (num x)]) (by exact heap_alloc_new w2 _) rfl (Nat.zero_le _))
      have HON : Hid (∀ q ∈ [Value.string (num x)], q.oneCell' = true) := Lib.hid (fun q hq => by rw [List.mem_singleton.1 hq]; rfl)
      have hbz : w.heap.size ≤ (w2.alloc (Obj.cells #[.string (num x)] 9)).heap.size := HB3.out.size
      clear hb2 hba
      go_wp2_with (at_builtin; refine wpList_append_row _ rfl _ _ 43 9 1 16 (.string ByteArray.empty) u43 i9r rfl (by decide) (by decide) rfl w.heap.size 0 k u3 _ rfl HO3.out _ 1 _ rfl HNR.out HON.out (by omega) hbz ?_)
      intro v' w5 ho5 hg5 hl5
      have HB5 := Lib.hid (HB3.out.grown hg5 HB3.out.size (fun b hb => (HO3.out.lt b hb).1))
      have HO5 : Hid (w5.ownsRow w.heap.size 9 1 v' (k + 1) (tcells (vs.take (k + 1)))) := Lib.hid (by rw [HTS.out, tcells_app]; exact ho5)
      clear ho5 hg5 hl5
      go_wp2_with (fail)
      exact ⟨⟨k + 1, hlt2, by push_cast; rfl, HO5.out, HB5.out⟩, by simp only [intOf]; omega⟩
    · have hke : k = m := by omega
      subst hke
      obtain ⟨A, c2, rfl, hc1, hc2, hr⟩ := own_read hown (by decide)
      obtain ⟨g, rfl, hg0, hg, _, hcx⟩ := hr h0
      have htl : (vs.take k).length = k := by have := HN0.out; rw [List.length_take]; omega
      have HJ : Hid (Calls Tryz.prog 126 #[.slice (some ⟨g, 0, none⟩) k c2, .string ⟨#[44]⟩] wr fun e w' => e = .returned (.string (listF vs)) ∧ Below wr.heap.size wr w') := Lib.hid (by
        have hj := join_any g c2 (vs.take k) wr (by omega) (by omega) hg (fun x hx => HV.out x (List.mem_of_mem_take hx)) (fun j x hx => hcx j _ (by unfold tcells; rw [List.getElem?_map, hx]; rfl))
        rw [htl] at hj
        have e1 : vs.take 64 = vs.take k := by
          rcases HM.out with ⟨h, h2⟩ | ⟨h, h2⟩
          rotate_left
          · rw [h2]
          · have h3 := HN0.out
            rw [List.take_of_length_le (by omega), List.take_of_length_le (by omega)]
        unfold listF
        rw [e1]
        exact hj)
      have HB := Lib.hid hbl
      clear hown hbl hr hcx
      go_wp2_with (fail)
      refine HJ.out.mono ?_
      rintro e w2 ⟨rfl, hb2⟩
      have HB2 := Lib.hid (bl_then HB.out hb2)
      clear hb2
      go_wp2_with (fail)
      go_ret
      exact ⟨rfl, HB2.out⟩
end Go.Proofs.YtfojblbnhapedaaGreatDoor
namespace Go.Proofs.YtfojblbnhapedaaGreatDoor
open Go.RowKit Go.Maps Go.Sort
set_option linter.unusedVariables false
set_option linter.unusedSimpArgs false

def sortV (vs : List Int) : List Int := vs.mergeSort fun x y => decide (x ≤ y)
/-- How many unlike values there are. -/
def distF (vs : List Int) : Nat := (Lib.compact (sortV vs)).length
theorem sortV_len (vs : List Int) : (sortV vs).length = vs.length := (List.mergeSort_perm _ _).length_eq
theorem distF_le (vs : List Int) : distF vs ≤ vs.length := by
  unfold distF Lib.compact Lib.compactUpTo
  rw [List.length_map]
  exact Nat.le_trans (List.length_filter_le _ _) (by rw [List.length_range, sortV_len]; exact Nat.le_refl _)
theorem sort_vals (B g c : Nat) (vs : List Int) (w : World) (hl : vs.length ≤ 100) (hp : 0 < vs.length) (h : w.ownsRow B 2 1 (.slice (some ⟨g, 0, none⟩) vs.length c) vs.length (icells vs)) :
    Calls Tryz.prog 128 #[.slice (some ⟨g, 0, none⟩) vs.length c] w fun e w' => e = .returned (.tuple #[]) ∧ w.grownBy w' (some g) ∧ w'.ownsRow B 2 1 (.slice (some ⟨g, 0, none⟩) vs.length c) vs.length (icells (sortV vs)) := by
  rcases h.2 with ⟨_, hz⟩ | ⟨b, cap, cur, hv, hB, hg, hnc, hcm, hcs, hct⟩
  · omega
  injection hv with h1 h2 h3
  injection h1 with h1
  injection h1 with h1
  subst h1 h3
  have h := AnyM.slices_Sort_int Tryz.vsrt g 0 c vs w (holds_of_blockI hg (by rw [Nat.mul_one] at hct; exact hct)) (Array.getElem?_eq_some_iff.1 hg).1 (by omega)
  change Calls Tryz.prog 128 _ _ _ at h
  refine h.mono ?_
  rintro e w' ⟨rfl, n, os, rfl⟩
  exact ⟨rfl, grownBy_sortedI _, ownsRow_sortedI (sortV_len vs) hB hg hnc hcm hcs⟩
set_option maxRecDepth 100000 in
set_option maxHeartbeats 4000000 in
theorem dist_all (b n c m : Nat) (vs : List Int) (w : World) (h : RowC w b n c vs) (hl : vs.length ≤ 100) (ht : Tab w) (hm : (distF vs ≤ 64 ∧ m = distF vs) ∨ (64 < distF vs ∧ m = 64)) : Calls Tryz.prog 99 #[.slice (some ⟨b, 0, none⟩) n c] w fun e w' => e = .returned (.string (num m)) ∧ Below w.heap.size w w' := by
  obtain ⟨hn, hp, hnc, hcm, hlt, hx⟩ := id h
  subst hn
  have hcl := AnyG.slices_Clone_int Tryz.vcln b 0 vs.length c vs w (Nat.le_refl _) (by omega) (getD_row h)
  change Calls Tryz.prog 127 _ _ _ at hcl
  rw [List.take_length] at hcl
  have HCL := Lib.hid hcl
  have HT := Lib.hid ht
  have HD := Lib.hid (distF_le vs)
  have HM := Lib.hid hm
  have hmin : min (distF vs : Int) 64 = (m : Int) := by omega
  have hd2 : distF vs ≤ 100 := Nat.le_trans (distF_le vs) hl
  clear hcl hx h ht hm
  go_enter Tryz.func99, Tryz.ntmps99
  go_wp2_with (fail)
  refine HCL.out.mono ?_
  rintro e w1 ⟨v1, rfl, ho1, _, hb1⟩
  obtain ⟨A, c1, rfl, hc1, hc2, hr⟩ := own_read ho1 (by decide)
  obtain ⟨g, rfl, hg0, hg, _, _⟩ := hr hp
  have HB1 := Lib.hid hb1
  have HS := Lib.hid (sort_vals w.heap.size g c1 vs w1 hl hp ho1)
  clear ho1 hb1 hr
  go_wp2_with (fail)
  refine HS.out.mono ?_
  rintro e w2 ⟨rfl, hg2, ho2⟩
  have HB2 := Lib.hid (HB1.out.grown hg2 HB1.out.size (fun k hk => by cases hk; exact hg0))
  obtain ⟨A2, c3, hv3, hc3, hc4, hr2⟩ := own_read ho2 (by decide)
  obtain ⟨g2, rfl, _, hgg, ⟨cur, hcur⟩, hx2⟩ := hr2 hp
  injection hv3 with h1 h2 h3
  injection h1 with h1
  injection h1 with h1
  subst h1 h3
  have hsl := sortV_len vs
  have hco := AnyG.slices_Compact_int_cells Tryz.vcmp g 0 vs.length c1 (sortV vs) w2 (by omega) (by omega) hc1 (fun j hj => by
    rw [Nat.zero_add, hx2 j (.int .i64 (sortV vs)[j]) (by unfold icells; rw [List.getElem?_map, List.getElem?_eq_getElem hj]; rfl)]
    simp [List.getElem?_eq_getElem hj]) (fun j _ => froz_of hcur _)
  change Calls Tryz.prog 129 _ _ _ at hco
  have e1 : (sortV vs).take vs.length = sortV vs := by rw [← hsl, List.take_length]
  rw [e1] at hco
  have HCO : Hid (Calls Tryz.prog 129 #[.slice (some ⟨g, 0, none⟩) vs.length c1] w2 fun e w' => e = .returned (.slice (some ⟨g, 0, none⟩) (distF vs) c1) ∧ Below w.heap.size w w') := Lib.hid (hco.mono fun e w' ⟨he, q, hw⟩ => ⟨he, by
    rw [hw]
    exact bl_setCells _ (bl_drewN HB2.out q) _ _ hg0⟩)
  clear hg2 ho2 hr2 hx2 hcur hco e1 hsl
  generalize distF vs = dd at *
  go_wp2_with (fail)
  refine HCO.out.mono ?_
  rintro e w3 ⟨rfl, hb3⟩
  have HN := Lib.hid (number_all m ⟨by omega, by omega⟩ w3 (HT.out.below hb3))
  have HB3 := Lib.hid hb3
  clear hb3
  go_wp2_with (fail)
  refine HN.out.mono ?_
  rintro e w4 ⟨rfl, hb4⟩
  have HB4 := Lib.hid (bl_then HB3.out hb4)
  clear hb4
  go_wp2_with (fail)
  go_ret
  exact ⟨rfl, HB4.out⟩
end Go.Proofs.YtfojblbnhapedaaGreatDoor
namespace Go.Proofs.YtfojblbnhapedaaGreatDoor
open Go.RowKit Go.Maps Go.Sort
set_option linter.unusedVariables false
set_option linter.unusedSimpArgs false

/-- A small whole number's bits. -/
def fb (n : Int) : Nat := FloatKind.f64.encode (.number (n < 0) n.natAbs 0)
theorem fb_all : ∀ i : Nat, i < 205 → floatBits .add .f64 (fb ((i : Int) - 102)) (fb 0) = some (fb ((i : Int) - 102)) ∧ floatBits .add .f64 (fb ((i : Int) - 102)) (fb 1) = some (fb ((i : Int) - 101)) ∧ floatBits .add .f64 (fb ((i : Int) - 102)) (fb (-1)) = some (fb ((i : Int) - 103)) ∧ floatToIntVal .f64 (fb ((i : Int) - 102)) .i64 = some ((i : Int) - 102) := by
  decide +kernel
theorem fb_step {n : Int} (h1 : -102 ≤ n) (h2 : n ≤ 102) : floatBits .add .f64 (fb n) (fb 0) = some (fb n) ∧ floatBits .add .f64 (fb n) (fb 1) = some (fb (n + 1)) ∧ floatBits .add .f64 (fb n) (fb (-1)) = some (fb (n - 1)) ∧ floatToIntVal .f64 (fb n) .i64 = some n := by
  have h := fb_all (n + 102).toNat (by omega)
  have e : (((n + 102).toNat : Nat) : Int) = n + 102 := by omega
  rw [e, show n + 102 - 102 = n by omega, show n + 102 - 101 = n + 1 by omega, show n + 102 - 103 = n - 1 by omega] at h
  exact h
theorem fb0 : fb 0 = 0 := by decide +kernel
theorem fb1 : fb 1 = 4607182418800017408 := by decide +kernel
theorem fbm : fb (-1) = 13830554455654793216 := by decide +kernel
def spR (x : Int) : Int := if x % 4 = 0 then 1 else if x % 4 = 2 then -1 else 0
def spI (x : Int) : Int := if x % 4 = 1 then 1 else if x % 4 = 3 then -1 else 0
def sumR (vs : List Int) : Int := (vs.map spR).sum
def sumI (vs : List Int) : Int := (vs.map spI).sum
theorem sum_bd (f : Int → Int) (hf : ∀ x, -1 ≤ f x ∧ f x ≤ 1) : ∀ l : List Int, -(l.length : Int) ≤ (l.map f).sum ∧ (l.map f).sum ≤ l.length
  | [] => by simp
  | x :: l => by
    have ih := sum_bd f hf l
    have h := hf x
    simp only [List.map_cons, List.sum_cons, List.length_cons]
    push_cast
    omega
theorem sum_snoc (f : Int → Int) (l : List Int) (x : Int) : ((l ++ [x]).map f).sum = (l.map f).sum + f x := by
  rw [List.map_append, List.sum_append]
  simp
theorem spR_bd (x : Int) : -1 ≤ spR x ∧ spR x ≤ 1 := by unfold spR; split <;> (try split) <;> omega
theorem spI_bd (x : Int) : -1 ≤ spI x ∧ spI x ≤ 1 := by unfold spI; split <;> (try split) <;> omega
theorem and3 (x : Int) : bits .and .i64 x 3 = x % 4 := by
  have h1 : bits .and .i64 x 3 = IntKind.i64.wrap ((BitVec.ofInt 64 x &&& BitVec.ofInt 64 3).toNat : Int) := rfl
  have h2 : (BitVec.ofInt 64 x &&& BitVec.ofInt 64 3).toNat = (x % 4).toNat := by
    rw [BitVec.toNat_and, BitVec.toNat_ofInt, show (BitVec.ofInt 64 3).toNat = 2 ^ 2 - 1 by decide, Nat.and_two_pow_sub_one_eq_mod]
    omega
  rw [h1, h2]
  have h3 : IntKind.i64.wrap (((x % 4).toNat : Nat) : Int) = x % 4 := by
    unfold IntKind.wrap
    have h4 : (((x % 4).toNat : Nat) : Int) = x % 4 := by omega
    rw [h4]
    have e : x % 4 % (2 ^ IntKind.i64.bits : Int) = x % 4 := by
      show x % 4 % (18446744073709551616 : Int) = _
      omega
    rw [e]
    show (if (true && decide (x % 4 ≥ (9223372036854775808 : Int))) = true then _ else _) = _
    rw [if_neg]
    simp
    omega
  rw [h3]
theorem num_size (n : Int) (h : i64 n) : (num n).size ≤ 21 := by
  have := Lib.itoa_length_le n h.1 (by have := h.2; omega)
  show (Lib.itoa n).toArray.size ≤ 21
  simpa using this
/-- A spin as a text. -/
def spinF (vs : List Int) : ByteArray := num (sumR vs) ++ ⟨#[44]⟩ ++ num (sumI vs)
def zer4 : Array Value := #[.complex .f64 0 0, .complex .f64 0 0, .complex .f64 0 0, .complex .f64 0 0]
def pows : Array Value := #[.complex .f64 4607182418800017408 0, .complex .f64 0 4607182418800017408, .complex .f64 13830554455654793216 0, .complex .f64 0 13830554455654793216]
/-- One value more. -/
theorem spin_add (x a b : Int) (ha1 : -101 ≤ a) (ha2 : a ≤ 101) (hb1 : -101 ≤ b) (hb2 : b ≤ 101) : ∃ k c d, k < 4 ∧ x % 4 = ((k : Nat) : Int) ∧ pows[k]? = some (.complex .f64 c d) ∧ ∀ w, (binOp .add 198 (.complex .f64 (fb a) (fb b)) (.complex .f64 c d)).run Tryz.prog w = .ok (.complex .f64 (fb (a + spR x)) (fb (b + spI x))) w := by
  have h0 := fb_step (n := a) (by omega) (by omega)
  have h1 := fb_step (n := b) (by omega) (by omega)
  have hx : x % 4 = 0 ∨ x % 4 = 1 ∨ x % 4 = 2 ∨ x % 4 = 3 := by omega
  rw [fb0, fb1, fbm] at h0 h1
  rcases hx with h | h | h | h
  · refine ⟨0, _, _, by omega, by omega, rfl, fun w => run_complex_sum w .add (.inl rfl) 198 .f64 _ _ _ _ _ _ ?_⟩
    unfold cSumBits spR spI
    rw [h0.2.1, h1.1]
    simp [h]
  · refine ⟨1, _, _, by omega, by omega, rfl, fun w => run_complex_sum w .add (.inl rfl) 198 .f64 _ _ _ _ _ _ ?_⟩
    unfold cSumBits spR spI
    rw [h0.1, h1.2.1]
    simp [h]
  · refine ⟨2, _, _, by omega, by omega, rfl, fun w => run_complex_sum w .add (.inl rfl) 198 .f64 _ _ _ _ _ _ ?_⟩
    unfold cSumBits spR spI
    rw [h0.2.2.1, h1.1]
    simp [h]
    rfl
  · refine ⟨3, _, _, by omega, by omega, rfl, fun w => run_complex_sum w .add (.inl rfl) 198 .f64 _ _ _ _ _ _ ?_⟩
    unfold cSumBits spR spI
    rw [h0.1, h1.2.2.1]
    simp [h]
    rfl
theorem u200 : (Tryz.prog.underlying 200).isSome = true := by kernel_rfl
theorem u2i : Tryz.prog.underlying 2 = some (.int .i64) := by kernel_rfl
set_option maxRecDepth 100000 in
set_option maxHeartbeats 4000000 in
theorem spin_all (b n c : Nat) (vs : List Int) (w : World) (h : RowC w b n c vs) (hl : vs.length ≤ 100) (hv : ∀ x ∈ vs, i64 x) (ht : Tab w) : Calls Tryz.prog 100 #[.slice (some ⟨b, 0, none⟩) n c] w fun e w' => e = .returned (.string (spinF vs)) ∧ Below w.heap.size w w' := by
  obtain ⟨hn, hp, hnc, hcm, hlt, hx⟩ := h
  subst hn
  have HX := Lib.hid hx
  have HT := Lib.hid ht
  have HBA : Hid (Below w.heap.size w (w.alloc (Obj.cells pows 199))) := Lib.hid (bl_alloc (Below.refl _ _) _)
  have HNW := Lib.hid (heap_alloc_new w (Obj.cells pows 199))
  clear hx ht hv hp
  have hst : ∀ (a : Addr) (k : FloatKind) (x y : Nat) (W : World), (store a (.complex k x y)).run Tryz.prog W = stored Tryz.prog W a (.complex k x y) .plain := fun a k x y W => run_store Tryz.prog W a _ _ rfl
  go_enter Tryz.func100, Tryz.ntmps100
  go_wp2_with (fail)
  go_loopw [4, 10] (fun v i wr => ∃ k : Nat, k ≤ vs.length ∧ i = .int .i64 k ∧ v = .complex .f64 (fb (sumR (vs.take k))) (fb (sumI (vs.take k))) ∧ Below w.heap.size w wr ∧ w.heap.size < wr.heap.size ∧ ∀ (k : Nat) x, pows[k]? = some x → wr.cell? ⟨w.heap.size, k, none⟩ = some x) (fun _ i _ => vs.length - (intOf i).toNat)
  case atStart =>
    refine ⟨0, Nat.zero_le _, rfl, ?_, ?_, ?_, ?_⟩
    · rw [List.take_zero]
      show _ = Value.complex .f64 (fb 0) (fb 0)
      rw [fb0]
    · exact HBA.out
    · simp
    · intro k x hk
      exact (cell_of HNW.out k).trans hk
  case round =>
    obtain ⟨k, hk, rfl, rfl, hbl, hsz, hcp⟩ := hrel
    have hr1 := sum_bd spR spR_bd (vs.take k)
    have hr2 := sum_bd spI spI_bd (vs.take k)
    have hlk : (vs.take k).length ≤ 100 := by rw [List.length_take]; omega
    by_cases hlt2 : k < vs.length
    · have c1 := (hbl.cell hlt).trans (HX.out k hlt2)
      have hs1 := sum_snoc spR (vs.take k) vs[k]
      have hs2 := sum_snoc spI (vs.take k) vs[k]
      rw [← List.take_succ_eq_append_getElem hlt2] at hs1 hs2
      have hs1 : sumR (vs.take (k + 1)) = sumR (vs.take k) + spR vs[k] := hs1
      have hs2 : sumI (vs.take (k + 1)) = sumI (vs.take k) + spI vs[k] := hs2
      have hr1 : -((vs.take k).length : Int) ≤ sumR (vs.take k) ∧ sumR (vs.take k) ≤ (vs.take k).length := hr1
      have hr2 : -((vs.take k).length : Int) ≤ sumI (vs.take k) ∧ sumI (vs.take k) ≤ (vs.take k).length := hr2
      obtain ⟨q, c2, d2, hq4, hq, hp, hadd⟩ := spin_add vs[k] (sumR (vs.take k)) (sumI (vs.take k)) (by omega) (by omega) (by omega) (by omega)
      have hand := and3 vs[k]
      rw [hq] at hand
      have c3 := hcp q _ hp
      have hsz2 : w.heap.size < wr.heap.size := hsz
      have hltw : b < wr.heap.size := Nat.lt_of_lt_of_le hlt hbl.size
      rw [← hs1, ← hs2] at hadd
      have HBL := Lib.hid hbl
      have HCP := Lib.hid hcp
      generalize vs[k] = x at *
      generalize sumR (vs.take k) = a at *
      generalize sumI (vs.take k) = bb at *
      obtain ⟨a2, ha2⟩ : ∃ a2, a2 = sumR (vs.take (k + 1)) := ⟨_, rfl⟩
      obtain ⟨bb2, hb2⟩ : ∃ bb2, bb2 = sumI (vs.take (k + 1)) := ⟨_, rfl⟩
      rw [← ha2, ← hb2] at hadd
      have HA2 := Lib.hid ha2
      have HB2 := Lib.hid hb2
      clear ha2 hb2
      clear hs1 hs2 hr1 hr2 hq hp hbl hcp hlk
      go_wp2_with (fail)
      exact ⟨⟨k + 1, hlt2, by push_cast; rfl, by rw [HA2.out, HB2.out], HBL.out, hsz2, HCP.out⟩, by simp only [intOf]; omega⟩
    · have hke : k = vs.length := by omega
      subst hke
      rw [List.take_length] at hr1 hr2 ⊢
      have hr1 : -(vs.length : Int) ≤ sumR vs ∧ sumR vs ≤ vs.length := hr1
      have hr2 : -(vs.length : Int) ≤ sumI vs ∧ sumI vs ≤ vs.length := hr2
      have hc1 : ∀ W : World, (convert 200 2 (.float .f64 (fb (sumR vs)))).run Tryz.prog W = .ok (.int .i64 (sumR vs)) W := fun W => run_convert_float_int W 200 2 .f64 .i64 _ _ u200 u2i (fb_step (by omega) (by omega)).2.2.2
      have hc2 : ∀ W : World, (convert 200 2 (.float .f64 (fb (sumI vs)))).run Tryz.prog W = .ok (.int .i64 (sumI vs)) W := fun W => run_convert_float_int W 200 2 .f64 .i64 _ _ u200 u2i (fb_step (by omega) (by omega)).2.2.2
      have HN1 := Lib.hid (number_all (sumR vs) ⟨by omega, by omega⟩ wr (HT.out.below hbl))
      have HN2 : Hid (∀ W, Below w.heap.size w W → Calls Tryz.prog 123 #[.int .i64 (sumI vs)] W fun e w' => e = .returned (.string (num (sumI vs))) ∧ Below W.heap.size W w') := Lib.hid (fun W hW => number_all (sumI vs) ⟨by omega, by omega⟩ W (HT.out.below hW))
      have HBL := Lib.hid hbl
      have hz1 := num_size (sumR vs) ⟨by omega, by omega⟩
      have hz2 := num_size (sumI vs) ⟨by omega, by omega⟩
      have HSF : Hid (spinF vs = num (sumR vs) ++ ⟨#[44]⟩ ++ num (sumI vs)) := Lib.hid rfl
      generalize sumR vs = a at *
      generalize sumI vs = bb at *
      clear hbl hcp hr1 hr2 hlk
      go_wp2_with (fail)
      refine HN1.out.mono ?_
      rintro e w2 ⟨rfl, hb2⟩
      have HB2 := Lib.hid (bl_then HBL.out hb2)
      have HN3 := Lib.hid (HN2.out w2 HB2.out)
      clear hb2
      go_wp2_with (fail)
      refine HN3.out.mono ?_
      rintro e w3 ⟨rfl, hb3⟩
      have HB3 := Lib.hid (bl_then HB2.out hb3)
      clear hb3
      go_wp2_with (fail)
      go_ret
      rw [HSF.out]
      exact ⟨rfl, HB3.out⟩
end Go.Proofs.YtfojblbnhapedaaGreatDoor
namespace Go.Proofs.YtfojblbnhapedaaGreatDoor
open Go.RowKit Go.Maps
set_option linter.unusedVariables false
set_option linter.unusedSimpArgs false

/-- What values come to. -/
def FT (g : Int) (vs : List Int) : ByteArray :=
  if g = 1 then num vs.length else if g = 2 then num (sumF vs) else if g = 3 then num (Lib.minOf vs) else if g = 4 then num (Lib.maxOf vs) else if g = 5 then num (vs.getLastD 0) else if g = 6 then listF vs else if g = 7 then num (min (distF vs) 64 : Nat) else spinF vs
theorem foldl_rg {f : Int → Int → Int} (hf : ∀ a b, i64 a → i64 b → i64 (f a b)) : ∀ (l : List Int) (a : Int), i64 a → (∀ x ∈ l, i64 x) → i64 (l.foldl f a)
  | [], a, h, _ => h
  | x :: l, a, h, hl => foldl_rg hf l _ (hf a x h (hl x (List.mem_cons_self ..))) fun y hy => hl y (List.mem_cons_of_mem _ hy)
theorem head_rg {l : List Int} (hl : ∀ x ∈ l, i64 x) : i64 (l.headD 0) := by
  cases l with
  | nil => exact ⟨by decide, by decide⟩
  | cons x l => exact hl x (List.mem_cons_self ..)
theorem minOf_rg {l : List Int} (hl : ∀ x ∈ l, i64 x) : i64 (Lib.minOf l) := foldl_rg (fun a b ha hb => by unfold i64 at *; omega) l _ (head_rg hl) hl
theorem maxOf_rg {l : List Int} (hl : ∀ x ∈ l, i64 x) : i64 (Lib.maxOf l) := foldl_rg (fun a b ha hb => by unfold i64 at *; omega) l _ (head_rg hl) hl
theorem tells_FT : Tells FT := by
  intro w B ht hb W g r vs hk hr ok
  have hT : Tab W := ht.kw hk hb
  obtain ⟨a, ha, hg⟩ : ∃ a : Nat, a < 8 ∧ g = ((a + 1 : Nat) : Int) := ⟨(g - 1).toNat, by have := ok.g1; have := ok.g8; omega, by have := ok.g1; omega⟩
  refine agg_any g a ha hg (rwV r) (FT g vs) W fun W' hb' => ?_
  have hrc : RowC W' r.b r.n r.c vs := (row_c hr).below hb'
  have hT' : Tab W' := hT.below hb'
  have hrn : vs.take r.n = vs := by rw [hrc.ln, List.take_length]
  have ha8 : a = 0 ∨ a = 1 ∨ a = 2 ∨ a = 3 ∨ a = 4 ∨ a = 5 ∨ a = 6 ∨ a = 7 := by omega
  unfold rwV
  rcases ha8 with rfl | rfl | rfl | rfl | rfl | rfl | rfl | rfl
  · subst hg; exact count_all _ _ _ vs W' hrc ok.len hT'
  · subst hg; exact sum_all _ _ _ vs W' hrc ok.len ok.rg hT'
  · subst hg
    have h := min_all _ _ _ vs W' hrc ok.len (by rw [hrn]; exact minOf_rg ok.rg) hT'
    rw [hrn] at h
    exact h
  · subst hg
    have h := max_all _ _ _ vs W' hrc ok.len (by rw [hrn]; exact maxOf_rg ok.rg) hT'
    rw [hrn] at h
    exact h
  · subst hg; exact last_all _ _ _ vs W' hrc ok.len ok.rg hT'
  · subst hg
    by_cases h64 : r.n ≤ 64
    · exact list_all _ _ _ r.n vs W' hrc ok.len ok.rg hT' (.inl ⟨h64, rfl⟩)
    · exact list_all _ _ _ 64 vs W' hrc ok.len ok.rg hT' (.inr ⟨by omega, rfl⟩)
  · subst hg
    exact dist_all _ _ _ (min (distF vs) 64) vs W' hrc ok.len hT' (by omega)
  · subst hg; exact spin_all _ _ _ vs W' hrc ok.len ok.rg hT'
end Go.Proofs.YtfojblbnhapedaaGreatDoor
