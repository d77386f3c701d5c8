/- The walk of ModelApart, where there is something to compare. Conditions: as each theorem states them. -/
import Derived.Test.YtfojblbnhapedaaGreatDoorX9
import Derived.Test.YtfojblbnhapedaaGreatDoorX8
import Derived.Test.YtfojblbnhapedaaGreatDoorR4
namespace Go.Proofs.YtfojblbnhapedaaGreatDoor
open Go.RowKit Go.Maps
set_option linter.unusedVariables false
set_option linter.unusedSimpArgs false

theorem all_any (j : Jb) (l : List Ev) (A : Option Addr) (c : Nat) (w : World) (hA : RdP w j.A j.ops) (hc : j.ops.length ≤ j.c) (hcb : j.c ≤ 9223372036854775807) (ht : Tab w) (hE : RdE w A l) (hlc : l.length ≤ c) (hcm : c ≤ 9223372036854775807) (hl : l.length ≤ 61) : Calls Tryz.prog 18 #[jbV j, .slice A l.length c] w (AllR w j l) := by
  by_cases hj : jobP j
  · exact all_yes j l A c w hA hc hcb hj ht hE hlc hcm hl
  · exact all_no j l A c w hA hc hcb hj
def evrow (l : List Ev) : List Value := l.flatMap evcells
theorem evrow_app (l m : List Ev) : evrow (l ++ m) = evrow l ++ evrow m := List.flatMap_append
theorem evrow_one (l : List Ev) : ∀ u ∈ evrow l, u.oneCell' = true := by
  intro u hu
  obtain ⟨o, _, ho⟩ := List.mem_flatMap.1 hu
  unfold evcells at ho
  simp only [List.mem_cons, List.not_mem_nil, or_false] at ho
  rcases ho with rfl | rfl | rfl | rfl | rfl <;> rfl
theorem evrow_at : ∀ (l : List Ev) (i : Nat) (h : i < l.length), (evrow l)[i * 5]? = some (.int .i64 (l[i]).k) ∧ (evrow l)[i * 5 + 1]? = some (.int .i64 (l[i]).src) ∧ (evrow l)[i * 5 + 2]? = some (.int .i64 (l[i]).t) ∧ (evrow l)[i * 5 + 3]? = some (.string (l[i]).key) ∧ (evrow l)[i * 5 + 4]? = some (.int .i64 (l[i]).v)
  | [], i, h => absurd h (Nat.not_lt_zero _)
  | o :: l, 0, h => ⟨rfl, rfl, rfl, rfl, rfl⟩
  | o :: l, i + 1, h => by
    have ih := evrow_at l i (by simpa using h)
    have e : ∀ k, (evrow (o :: l))[(i + 1) * 5 + k]? = (evrow l)[i * 5 + k]? := fun k => by
      rw [show (i + 1) * 5 + k = (i * 5 + k) + 5 from by omega]
      rfl
    exact ⟨(e 0).trans ih.1, (e 1).trans ih.2.1, (e 2).trans ih.2.2.1, (e 3).trans ih.2.2.2.1, (e 4).trans ih.2.2.2.2⟩
theorem own_rde {w : World} {base n : Nat} {v : Value} {l : List Ev} (h : w.ownsRow base 26 5 v n (evrow l)) (hn : n = l.length) (ho : ∀ e ∈ l, okN e.key ∧ i64 e.v) : ∃ A c, v = .slice A l.length c ∧ l.length ≤ c ∧ c ≤ 9223372036854775807 ∧ RdE w A l := by
  subst hn
  obtain ⟨A, c, hv, h1, h2, hr⟩ := own_read h (by decide)
  refine ⟨A, c, hv, h1, by simp only [maxLen] at h2; omega, fun hl => ?_, ho⟩
  obtain ⟨g, hA, _, hg, _, hx⟩ := hr hl
  refine ⟨g, 0, hA, hg, fun i hi => ?_⟩
  obtain ⟨h0, h1, h2, h3, h4⟩ := evrow_at l i hi
  rw [Nat.zero_add]
  exact ⟨hx _ _ h0, hx _ _ h1, hx _ _ h2, hx _ _ h3, hx _ _ h4⟩
theorem und49' : Tryz.prog.underlying 49 = some (.slice 26) := by kernel_rfl
theorem i26 : (Tryz.prog.info? 26).map (fun i => (i.zero, i.size, i.bytes)) = some (some (.agg #[.int .i64 0, .int .i64 0, .int .i64 0, .string ⟨#[]⟩, .int .i64 0]), 5, 48) := by kernel_rfl
def jobcells (j : Jb) : Array Value := #[.int .i64 j.groups, .int .i64 j.sources, .int .i64 j.bound, .int .i64 j.late, .slice j.A j.ops.length j.c]
set_option maxRecDepth 100000 in
set_option maxHeartbeats 4000000 in
/-- Too much of it, or nothing to compare. -/
theorem apart_early (j : Jb) (l : List Ev) (A : Option Addr) (c : Nat) (K O : ByteArray) (w : World) (hk : okN O) (h : 60 < l.length ∨ 8 < j.ops.length ∨ K = O ∨ 64 < O.size) : Calls Tryz.prog 5 #[jbV j, .slice A l.length c, .string K, .string O] w fun e w' => e = .returned (.bool true) ∧ Below w.heap.size w w' := by
  have HB := Lib.hid (bl_alloc (Below.refl w.heap.size w) (Obj.cells (jobcells j) 24))
  have HA := Lib.hid (awake_any (w.alloc (Obj.cells (jobcells j) 24)))
  unfold jobcells at HA HB
  obtain ⟨gr, so, bo, la, ops, jA, jc⟩ := j
  unfold jbV
  dsimp only at *
  generalize ops.length = no at *
  generalize l.length = nl at *
  have fin : ∀ (e : Ending) (w' : World), (e = .returned (.bool true) ∧ Below (w.alloc (Obj.cells #[.int .i64 gr, .int .i64 so, .int .i64 bo, .int .i64 la, .slice jA no jc] 24)).heap.size (w.alloc (Obj.cells #[.int .i64 gr, .int .i64 so, .int .i64 bo, .int .i64 la, .slice jA no jc] 24)) w') → e = .returned (.bool true) ∧ Below w.heap.size w w' := fun e w' ⟨h1, h2⟩ => ⟨h1, bl_then HB.out h2⟩
  have HF := Lib.hid fin
  clear fin
  unfold okN at hk
  by_cases h1 : 60 < nl
  · clear h
    go_enter Tryz.func5, Tryz.ntmps5
    go_wp2_with (fail)
    refine HA.out.mono ?_
    rintro e w' he
    obtain ⟨rfl, hb⟩ := HF.out e w' he
    have HB2 := Lib.hid hb
    clear he hb
    go_wp2_with (fail)
    go_ret
    exact ⟨rfl, HB2.out⟩
  · by_cases h2 : 8 < no
    · clear h
      go_enter Tryz.func5, Tryz.ntmps5
      go_wp2_with (fail)
      refine HA.out.mono ?_
      rintro e w' he
      obtain ⟨rfl, hb⟩ := HF.out e w' he
      have HB2 := Lib.hid hb
      clear he hb
      go_wp2_with (fail)
      go_ret
      exact ⟨rfl, HB2.out⟩
    · by_cases h3 : K = O
      · subst h3
        have hkk : (K.toList == K.toList) = true := tl_eq rfl
        clear h
        go_enter Tryz.func5, Tryz.ntmps5
        go_wp2_with (fail)
        refine HA.out.mono ?_
        rintro e w' he
        obtain ⟨rfl, hb⟩ := HF.out e w' he
        have HB2 := Lib.hid hb
        clear he hb
        go_wp2_with (fail)
        go_ret
        exact ⟨rfl, HB2.out⟩
      · have h4 : 64 < O.size := by rcases h with h | h | h | h <;> first | exact absurd h h1 | exact absurd h h2 | exact absurd h h3 | exact h
        have hkk : (K.toList == O.toList) = false := tl_ne h3
        clear h h3
        go_enter Tryz.func5, Tryz.ntmps5
        go_wp2_with (fail)
        refine HA.out.mono ?_
        rintro e w' he
        obtain ⟨rfl, hb⟩ := HF.out e w' he
        have HB2 := Lib.hid hb
        clear he hb
        go_wp2_with (fail)
        go_ret
        exact ⟨rfl, HB2.out⟩
end Go.Proofs.YtfojblbnhapedaaGreatDoor
namespace Go.Proofs.YtfojblbnhapedaaGreatDoor
open Go.RowKit Go.Maps
set_option linter.unusedVariables false
set_option linter.unusedSimpArgs false

theorem jobcells_job {w : World} {b : Nat} {j : Jb} (h : w.heap[b]? = some (Obj.cells (jobcells j) 24)) : w.cell? ⟨b, 0, none⟩ = some (.int .i64 j.groups) ∧ w.cell? ⟨b, 1, none⟩ = some (.int .i64 j.sources) ∧ w.cell? ⟨b, 2, none⟩ = some (.int .i64 j.bound) ∧ w.cell? ⟨b, 3, none⟩ = some (.int .i64 j.late) ∧ w.cell? ⟨b, 4, none⟩ = some (.slice j.A j.ops.length j.c) :=
  ⟨cell_of h 0, cell_of h 1, cell_of h 2, cell_of h 3, cell_of h 4⟩
theorem allQ_ou {w : World} {j : Jb} {l : List Ev} {r : Ending} {w' : World} (h : AllR w j l r w') : Below w.heap.size w w' ∧ ((r = .returned (.tuple #[.slice none 0 0, .bool false]) ∧ allQ j l = none) ∨ ∃ o A c, r = .returned (.tuple #[.slice A o.length c, .bool true]) ∧ allQ j l = some o ∧ o.length ≤ 3000 * l.length ∧ o.length ≤ c ∧ c ≤ maxLen ∧ RdO w' A (o.map (otV FT j))) := by
  obtain ⟨hb, v, b, rfl, h⟩ := h
  refine ⟨hb, ?_⟩
  rcases h with ⟨rfl, rfl, h⟩ | ⟨o, rfl, h, hl, ho⟩
  · exact .inl ⟨rfl, h⟩
  · rw [otcells_ou] at ho
    have ho2 : w'.ownsRow w.heap.size 56 6 v (o.map (otV FT j)).length (oucells (o.map (otV FT j))) := by rw [List.length_map]; exact ho
    obtain ⟨A, c, hv, h1, h2, h3⟩ := own_rdo ho2
    rw [List.length_map] at hv h1
    exact .inr ⟨o, A, c, by rw [hv], h, hl, h1, h2, h3⟩
theorem of_ot (K : ByteArray) (j : Jb) (o : List Ot) : ofL K (o.map (otV FT j)) = (o.filter fun o => QK K o.1).map (otV FT j) := by
  unfold ofL
  rw [List.filter_map]
  rfl
set_option maxRecDepth 100000 in
set_option maxHeartbeats 8000000 in
theorem apart_main (j : Jb) (l : List Ev) (A : Option Addr) (c : Nat) (K O : ByteArray) (w : World) (hA : RdP w j.A j.ops) (hc : j.ops.length ≤ j.c) (hcb : j.c ≤ 9223372036854775807) (ht : Tab w) (hE : RdE w A l) (hlc : l.length ≤ c) (hcm : c ≤ 9223372036854775807)
    (h1 : l.length ≤ 60) (h2 : j.ops.length ≤ 8) (h3 : K ≠ O) (h4 : O.size ≤ 64) : Calls Tryz.prog 5 #[jbV j, .slice A l.length c, .string K, .string O] w fun e w' => e = .returned (.bool true) ∧ Below w.heap.size w w' := by
  have hb := bl_alloc (Below.refl w.heap.size w) (Obj.cells (jobcells j) 24)
  have HB := Lib.hid hb
  have HN := Lib.hid (heap_alloc_new w (Obj.cells (jobcells j) 24))
  have HE := Lib.hid (hE.below hb)
  have HA := Lib.hid (hA.below hb)
  have HT := Lib.hid (ht.below hb)
  have HLAW : Hid (∀ o o2, allQ j l = some o → allQ j (l.map (turnK K O)) = some o2 → ofL K (o.map (otV FT j)) = ofL K (o2.map (otV FT j))) := Lib.hid (fun o o2 ho ho2 => by rw [of_ot, of_ot, apart_law (fun h => h3 h.symm) h4 ho ho2])
  obtain ⟨W0, hW0⟩ : ∃ W0, W0 = w.alloc (Obj.cells (jobcells j) 24) := ⟨_, rfl⟩
  have HW0 := Lib.hid hW0
  rw [← hW0] at HB HN HE HA HT
  have hkk : (K.toList == O.toList) = false := tl_ne h3
  have HJB : Hid (jbV j = .agg #[.int .i64 j.groups, .int .i64 j.sources, .int .i64 j.bound, .int .i64 j.late, .slice j.A j.ops.length j.c]) := Lib.hid rfl
  obtain ⟨jj, hjj⟩ : ∃ jj, jj = j := ⟨_, rfl⟩
  have HJJ := Lib.hid hjj
  rw [← hjj] at HLAW HA HN
  obtain ⟨gr, so, bo, la, ops, jA, jc⟩ := j
  unfold jbV
  dsimp only at *
  clear hjj hA ht hE hb hW0
  go_enter Tryz.func5, Tryz.ntmps5
  go_wp2_with (fail)
  have HWE : Hid (w.alloc (Obj.cells #[.int .i64 gr, .int .i64 so, .int .i64 bo, .int .i64 la, .slice jA ops.length jc] 24) = W0) := Lib.hid (by rw [HW0.out]; rfl)
  rw [HWE.out]
  go_loopw [9, 10] (fun v i wr => ∃ k : Nat, k ≤ l.length ∧ i = .int .i64 k ∧ wr.ownsRow W0.heap.size 26 5 v k (evrow ((l.take k).map (turnK K O))) ∧ Below W0.heap.size W0 wr) (fun _ i _ => l.length - (intOf i).toNat)
  case atStart => exact ⟨0, Nat.zero_le _, rfl, World.ownsRow_nil _ _ _ _, Below.refl _ _⟩
  case round =>
    obtain ⟨k, hk, rfl, hown, hbl⟩ := hrel
    by_cases hlt : k < l.length
    · obtain ⟨b, off, rfl, hbw, hcell⟩ := (HE.out.below hbl).at_ (by omega)
      obtain ⟨d0, d1, d2, d3, d4⟩ := hcell k hlt
      have hokn : okN (l[k]).key := (HE.out.2 l[k] (List.getElem_mem _)).1
      have hsn : (l.take (k + 1)).map (turnK K O) = (l.take k).map (turnK K O) ++ [turnK K O l[k]] := by
        rw [List.take_succ_eq_append_getElem hlt, List.map_append]
        rfl
      obtain ⟨tk, htk⟩ : ∃ tk, tk = (l.take k).map (turnK K O) := ⟨_, rfl⟩
      rw [← htk] at hown hsn
      clear htk
      have HO := Lib.hid hown
      have HBL := Lib.hid hbl
      have hbz : W0.heap.size ≤ wr.heap.size := hbl.size
      generalize l[k] = ev at *
      obtain ⟨ek, esrc, et, ekey, evv⟩ := ev
      dsimp only at d0 d1 d2 d3 d4 hokn
      unfold okN at hokn
      clear hcell hown hbl
      by_cases hk1 : ek = 1
      · by_cases hkey : ekey = K
        · have hq : (ekey.toList == K.toList) = true := tl_eq hkey
          subst hk1
          have htn : turnK K O ⟨1, esrc, et, ekey, evv⟩ = ⟨1, esrc, et, ekey, evv⟩ := by unfold turnK; rw [if_neg (fun h => h.2.1 hkey)]
          rw [htn] at hsn
          have HSN := Lib.hid hsn
          have hba0 := bl_alloc (Below.refl wr.heap.size wr) (Obj.cells #[.int .i64 1, .int .i64 esrc, .int .i64 et, .string ekey, .int .i64 evv] 26)
          have hsz0 : (wr.alloc (Obj.cells #[.int .i64 1, .int .i64 esrc, .int .i64 et, .string ekey, .int .i64 evv] 26)).heap.size = wr.heap.size + 1 := by simp
          have hba := bl_alloc hba0 (Obj.cells #[.int .i64 1, .int .i64 esrc, .int .i64 et, .string ekey, .int .i64 evv] 26)
          have HB3 : Hid (Below W0.heap.size W0 ((wr.alloc (Obj.cells #[.int .i64 1, .int .i64 esrc, .int .i64 et, .string ekey, .int .i64 evv] 26)).alloc (Obj.cells #[.int .i64 1, .int .i64 esrc, .int .i64 et, .string ekey, .int .i64 evv] 26))) := Lib.hid (bl_then HBL.out hba)
          have HO3 := Lib.hid (own_below HO.out hba)
          have HNR : Hid (((wr.alloc (Obj.cells #[.int .i64 1, .int .i64 esrc, .int .i64 et, .string ekey, .int .i64 evv] 26)).alloc (Obj.cells #[.int .i64 1, .int .i64 esrc, .int .i64 et, .string ekey, .int .i64 evv] 26)).ownsRow 0 26 5 (.slice (some ⟨wr.heap.size + 1, 0, none⟩) 1 1) 1 (evrow [⟨1, esrc, et, ekey, evv⟩])) := Lib.hid (own_one (news := evrow [⟨1, esrc, et, ekey, evv⟩]) (by rw [← hsz0]; exact heap_alloc_new _ _) rfl (Nat.zero_le _))
          have HON := Lib.hid (evrow_one [⟨1, esrc, et, ekey, evv⟩])
          have hbz2 : W0.heap.size ≤ ((wr.alloc (Obj.cells #[.int .i64 1, .int .i64 esrc, .int .i64 et, .string ekey, .int .i64 evv] 26)).alloc (Obj.cells #[.int .i64 1, .int .i64 esrc, .int .i64 et, .string ekey, .int .i64 evv] 26)).heap.size := HB3.out.size
          clear hba hba0 hsz0 hsn htn hkey
          go_wp2_with (at_builtin; refine wpList_append_row _ rfl _ _ 49 26 5 48 (.agg #[.int .i64 0, .int .i64 0, .int .i64 0, .string ⟨#[]⟩, .int .i64 0]) und49' i26 rfl (by decide) (by decide) rfl W0.heap.size 0 k u9 _ rfl HO3.out _ 1 _ rfl HNR.out HON.out (by omega) hbz2 ?_)
          intro v7 w7 ho7 hg7 hl7
          have HB7 := Lib.hid (HB3.out.grown hg7 HB3.out.size (fun b hb => (HO3.out.lt b hb).1))
          have HO7 : Hid (w7.ownsRow W0.heap.size 26 5 v7 (k + 1) (evrow ((l.take (k + 1)).map (turnK K O)))) := Lib.hid (by rw [HSN.out, evrow_app]; exact ho7)
          clear ho7 hg7 hl7
          go_wp2_with (fail)
          exact ⟨⟨k + 1, hlt, by push_cast; rfl, HO7.out, HB7.out⟩, by simp only [intOf]; omega⟩
        · have hq : (ekey.toList == K.toList) = false := tl_ne hkey
          by_cases hs : ekey.size ≤ 64
          · subst hk1
            have htn : turnK K O ⟨1, esrc, et, ekey, evv⟩ = ⟨1, esrc, et, O, 1⟩ := by unfold turnK; rw [if_pos ⟨rfl, hkey, hs⟩]
            rw [htn] at hsn
            have HSN := Lib.hid hsn
            have hba0 := bl_alloc (Below.refl wr.heap.size wr) (Obj.cells #[.int .i64 1, .int .i64 esrc, .int .i64 et, .string O, .int .i64 1] 26)
            have hsz0 : (wr.alloc (Obj.cells #[.int .i64 1, .int .i64 esrc, .int .i64 et, .string O, .int .i64 1] 26)).heap.size = wr.heap.size + 1 := by simp
            have hba := bl_alloc hba0 (Obj.cells #[.int .i64 1, .int .i64 esrc, .int .i64 et, .string O, .int .i64 1] 26)
            have HB3 : Hid (Below W0.heap.size W0 ((wr.alloc (Obj.cells #[.int .i64 1, .int .i64 esrc, .int .i64 et, .string O, .int .i64 1] 26)).alloc (Obj.cells #[.int .i64 1, .int .i64 esrc, .int .i64 et, .string O, .int .i64 1] 26))) := Lib.hid (bl_then HBL.out hba)
            have HO3 := Lib.hid (own_below HO.out hba)
            have HNR : Hid (((wr.alloc (Obj.cells #[.int .i64 1, .int .i64 esrc, .int .i64 et, .string O, .int .i64 1] 26)).alloc (Obj.cells #[.int .i64 1, .int .i64 esrc, .int .i64 et, .string O, .int .i64 1] 26)).ownsRow 0 26 5 (.slice (some ⟨wr.heap.size + 1, 0, none⟩) 1 1) 1 (evrow [⟨1, esrc, et, O, 1⟩])) := Lib.hid (own_one (news := evrow [⟨1, esrc, et, O, 1⟩]) (by rw [← hsz0]; exact heap_alloc_new _ _) rfl (Nat.zero_le _))
            have HON := Lib.hid (evrow_one [⟨1, esrc, et, O, 1⟩])
            have hbz2 : W0.heap.size ≤ ((wr.alloc (Obj.cells #[.int .i64 1, .int .i64 esrc, .int .i64 et, .string O, .int .i64 1] 26)).alloc (Obj.cells #[.int .i64 1, .int .i64 esrc, .int .i64 et, .string O, .int .i64 1] 26)).heap.size := HB3.out.size
            clear hba hba0 hsz0 hsn htn hkey
            go_wp2_with (at_builtin; refine wpList_append_row _ rfl _ _ 49 26 5 48 (.agg #[.int .i64 0, .int .i64 0, .int .i64 0, .string ⟨#[]⟩, .int .i64 0]) und49' i26 rfl (by decide) (by decide) rfl W0.heap.size 0 k u9 _ rfl HO3.out _ 1 _ rfl HNR.out HON.out (by omega) hbz2 ?_)
            intro v7 w7 ho7 hg7 hl7
            have HB7 := Lib.hid (HB3.out.grown hg7 HB3.out.size (fun b hb => (HO3.out.lt b hb).1))
            have HO7 : Hid (w7.ownsRow W0.heap.size 26 5 v7 (k + 1) (evrow ((l.take (k + 1)).map (turnK K O)))) := Lib.hid (by rw [HSN.out, evrow_app]; exact ho7)
            clear ho7 hg7 hl7
            go_wp2_with (fail)
            exact ⟨⟨k + 1, hlt, by push_cast; rfl, HO7.out, HB7.out⟩, by simp only [intOf]; omega⟩
          · subst hk1
            have htn : turnK K O ⟨1, esrc, et, ekey, evv⟩ = ⟨1, esrc, et, ekey, evv⟩ := by unfold turnK; rw [if_neg (fun h => hs h.2.2)]
            rw [htn] at hsn
            have HSN := Lib.hid hsn
            have hba0 := bl_alloc (Below.refl wr.heap.size wr) (Obj.cells #[.int .i64 1, .int .i64 esrc, .int .i64 et, .string ekey, .int .i64 evv] 26)
            have hsz0 : (wr.alloc (Obj.cells #[.int .i64 1, .int .i64 esrc, .int .i64 et, .string ekey, .int .i64 evv] 26)).heap.size = wr.heap.size + 1 := by simp
            have hba := bl_alloc hba0 (Obj.cells #[.int .i64 1, .int .i64 esrc, .int .i64 et, .string ekey, .int .i64 evv] 26)
            have HB3 : Hid (Below W0.heap.size W0 ((wr.alloc (Obj.cells #[.int .i64 1, .int .i64 esrc, .int .i64 et, .string ekey, .int .i64 evv] 26)).alloc (Obj.cells #[.int .i64 1, .int .i64 esrc, .int .i64 et, .string ekey, .int .i64 evv] 26))) := Lib.hid (bl_then HBL.out hba)
            have HO3 := Lib.hid (own_below HO.out hba)
            have HNR : Hid (((wr.alloc (Obj.cells #[.int .i64 1, .int .i64 esrc, .int .i64 et, .string ekey, .int .i64 evv] 26)).alloc (Obj.cells #[.int .i64 1, .int .i64 esrc, .int .i64 et, .string ekey, .int .i64 evv] 26)).ownsRow 0 26 5 (.slice (some ⟨wr.heap.size + 1, 0, none⟩) 1 1) 1 (evrow [⟨1, esrc, et, ekey, evv⟩])) := Lib.hid (own_one (news := evrow [⟨1, esrc, et, ekey, evv⟩]) (by rw [← hsz0]; exact heap_alloc_new _ _) rfl (Nat.zero_le _))
            have HON := Lib.hid (evrow_one [⟨1, esrc, et, ekey, evv⟩])
            have hbz2 : W0.heap.size ≤ ((wr.alloc (Obj.cells #[.int .i64 1, .int .i64 esrc, .int .i64 et, .string ekey, .int .i64 evv] 26)).alloc (Obj.cells #[.int .i64 1, .int .i64 esrc, .int .i64 et, .string ekey, .int .i64 evv] 26)).heap.size := HB3.out.size
            clear hba hba0 hsz0 hsn htn hkey
            go_wp2_with (at_builtin; refine wpList_append_row _ rfl _ _ 49 26 5 48 (.agg #[.int .i64 0, .int .i64 0, .int .i64 0, .string ⟨#[]⟩, .int .i64 0]) und49' i26 rfl (by decide) (by decide) rfl W0.heap.size 0 k u9 _ rfl HO3.out _ 1 _ rfl HNR.out HON.out (by omega) hbz2 ?_)
            intro v7 w7 ho7 hg7 hl7
            have HB7 := Lib.hid (HB3.out.grown hg7 HB3.out.size (fun b hb => (HO3.out.lt b hb).1))
            have HO7 : Hid (w7.ownsRow W0.heap.size 26 5 v7 (k + 1) (evrow ((l.take (k + 1)).map (turnK K O)))) := Lib.hid (by rw [HSN.out, evrow_app]; exact ho7)
            clear ho7 hg7 hl7
            go_wp2_with (fail)
            exact ⟨⟨k + 1, hlt, by push_cast; rfl, HO7.out, HB7.out⟩, by simp only [intOf]; omega⟩
      · have hq : (ek == (1 : Int)) = false := by simpa using hk1
        have htn : turnK K O ⟨ek, esrc, et, ekey, evv⟩ = ⟨ek, esrc, et, ekey, evv⟩ := by unfold turnK; rw [if_neg (fun h => hk1 h.1)]
        rw [htn] at hsn
        have HSN := Lib.hid hsn
        have hba0 := bl_alloc (Below.refl wr.heap.size wr) (Obj.cells #[.int .i64 ek, .int .i64 esrc, .int .i64 et, .string ekey, .int .i64 evv] 26)
        have hsz0 : (wr.alloc (Obj.cells #[.int .i64 ek, .int .i64 esrc, .int .i64 et, .string ekey, .int .i64 evv] 26)).heap.size = wr.heap.size + 1 := by simp
        have hba := bl_alloc hba0 (Obj.cells #[.int .i64 ek, .int .i64 esrc, .int .i64 et, .string ekey, .int .i64 evv] 26)
        have HB3 : Hid (Below W0.heap.size W0 ((wr.alloc (Obj.cells #[.int .i64 ek, .int .i64 esrc, .int .i64 et, .string ekey, .int .i64 evv] 26)).alloc (Obj.cells #[.int .i64 ek, .int .i64 esrc, .int .i64 et, .string ekey, .int .i64 evv] 26))) := Lib.hid (bl_then HBL.out hba)
        have HO3 := Lib.hid (own_below HO.out hba)
        have HNR : Hid (((wr.alloc (Obj.cells #[.int .i64 ek, .int .i64 esrc, .int .i64 et, .string ekey, .int .i64 evv] 26)).alloc (Obj.cells #[.int .i64 ek, .int .i64 esrc, .int .i64 et, .string ekey, .int .i64 evv] 26)).ownsRow 0 26 5 (.slice (some ⟨wr.heap.size + 1, 0, none⟩) 1 1) 1 (evrow [⟨ek, esrc, et, ekey, evv⟩])) := Lib.hid (own_one (news := evrow [⟨ek, esrc, et, ekey, evv⟩]) (by rw [← hsz0]; exact heap_alloc_new _ _) rfl (Nat.zero_le _))
        have HON := Lib.hid (evrow_one [⟨ek, esrc, et, ekey, evv⟩])
        have hbz2 : W0.heap.size ≤ ((wr.alloc (Obj.cells #[.int .i64 ek, .int .i64 esrc, .int .i64 et, .string ekey, .int .i64 evv] 26)).alloc (Obj.cells #[.int .i64 ek, .int .i64 esrc, .int .i64 et, .string ekey, .int .i64 evv] 26)).heap.size := HB3.out.size
        clear hba hba0 hsz0 hsn htn
        go_wp2_with (at_builtin; refine wpList_append_row _ rfl _ _ 49 26 5 48 (.agg #[.int .i64 0, .int .i64 0, .int .i64 0, .string ⟨#[]⟩, .int .i64 0]) und49' i26 rfl (by decide) (by decide) rfl W0.heap.size 0 k u9 _ rfl HO3.out _ 1 _ rfl HNR.out HON.out (by omega) hbz2 ?_)
        intro v7 w7 ho7 hg7 hl7
        have HB7 := Lib.hid (HB3.out.grown hg7 HB3.out.size (fun b hb => (HO3.out.lt b hb).1))
        have HO7 : Hid (w7.ownsRow W0.heap.size 26 5 v7 (k + 1) (evrow ((l.take (k + 1)).map (turnK K O)))) := Lib.hid (by rw [HSN.out, evrow_app]; exact ho7)
        clear ho7 hg7 hl7
        go_wp2_with (fail)
        exact ⟨⟨k + 1, hlt, by push_cast; rfl, HO7.out, HB7.out⟩, by simp only [intOf]; omega⟩
    · have hke : k = l.length := by omega
      subst hke
      rw [List.take_length] at hown
      have hlen : l.length = (l.map (turnK K O)).length := by rw [List.length_map]
      have hokt : ∀ e ∈ l.map (turnK K O), okN e.key ∧ i64 e.v := by
        intro e he
        obtain ⟨e0, he0, rfl⟩ := List.mem_map.1 he
        unfold turnK
        split
        · exact ⟨by unfold okN; dsimp only; omega, by show i64 1; unfold i64; decide⟩
        · exact HE.out.2 e0 he0
      have hnw := (hbl.block w.heap.size (by have := (Array.getElem?_eq_some_iff.1 HN.out).1; exact this)).trans HN.out
      obtain ⟨x0, x1, x2, x3, x4⟩ := jobcells_job hnw
      rw [HJJ.out] at x0 x1 x2 x3 x4
      have hjlt : w.heap.size < wr.heap.size := (Array.getElem?_eq_some_iff.1 hnw).1
      obtain ⟨A2, c2, hv, hlc2, hcm2, hRE2⟩ := own_rde hown hlen hokt
      have hag : Value.agg #[.int .i64 gr, .int .i64 so, .int .i64 bo, .int .i64 la, .slice jA ops.length jc] = jbV jj := by rw [HJJ.out]; exact HJB.out.symm
      have hcj : jj.ops.length ≤ jj.c := by rw [HJJ.out]; exact hc
      have hcj2 : jj.c ≤ 9223372036854775807 := by rw [HJJ.out]; exact hcb
      have HC1 : Hid (Calls Tryz.prog 18 #[.agg #[.int .i64 gr, .int .i64 so, .int .i64 bo, .int .i64 la, .slice jA ops.length jc], .slice A l.length c] wr (AllR wr jj l)) := Lib.hid (by
        rw [hag]
        exact all_any jj l A c wr (HA.out.below hbl) hcj hcj2 (HT.out.below hbl) (HE.out.below hbl) hlc hcm (by omega))
      have HC2 : Hid (∀ W, Below wr.heap.size wr W → Calls Tryz.prog 18 #[.agg #[.int .i64 gr, .int .i64 so, .int .i64 bo, .int .i64 la, .slice jA ops.length jc], .slice A2 l.length c2] W (AllR W jj (l.map (turnK K O)))) := Lib.hid (fun W hW => by
        rw [hag]
        have h := all_any jj (l.map (turnK K O)) A2 c2 W ((HA.out.below hbl).below hW) hcj hcj2 ((HT.out.below hbl).below hW) (hRE2.below hW) hlc2 hcm2 (by rw [← hlen]; omega)
        rw [← hlen] at h
        exact h)
      clear hag hcj hcj2
      have HBB : Hid (Below w.heap.size w wr) := Lib.hid (bl_then HB.out hbl)
      rw [hv]
      rw [← hlen]
      clear hown hRE2 hnw hokt hbl hv hlen
      go_wp2_with (fail)
      refine HC1.out.mono ?_
      rintro e w2 har
      obtain ⟨hb2, har⟩ := allQ_ou har
      have HB2 := Lib.hid (bl_then HBB.out hb2)
      have HC3 := Lib.hid (HC2.out w2 hb2)
      have y0 := (hb2.cell (p := ⟨w.heap.size, 0, none⟩) hjlt).trans x0
      have y1 := (hb2.cell (p := ⟨w.heap.size, 1, none⟩) hjlt).trans x1
      have y2 := (hb2.cell (p := ⟨w.heap.size, 2, none⟩) hjlt).trans x2
      have y3 := (hb2.cell (p := ⟨w.heap.size, 3, none⟩) hjlt).trans x3
      have y4 := (hb2.cell (p := ⟨w.heap.size, 4, none⟩) hjlt).trans x4
      have hjlt2 : w.heap.size < w2.heap.size := Nat.lt_of_lt_of_le hjlt hb2.size
      clear hb2 x0 x1 x2 x3 x4
      rcases har with ⟨rfl, ha1⟩ | ⟨o1, A1, c1, rfl, ha1, hl1, hc1, hm1, hr1⟩
      · go_wp2_with (fail)
        refine HC3.out.mono ?_
        rintro e w3 har2
        obtain ⟨hb3, har2⟩ := allQ_ou har2
        have HB3 := Lib.hid (bl_then HB2.out hb3)
        have HAW := Lib.hid (awake_any w3)
        clear hb3
        rcases har2 with ⟨rfl, ha2⟩ | ⟨o2, A3, c3, rfl, ha2, hl2, hc3, hm2, hr2⟩
        · go_wp2_with (fail)
          refine HAW.out.mono ?_
          rintro e w4 ⟨rfl, hb4⟩
          have HB4 := Lib.hid (bl_then HB3.out hb4)
          clear hb4
          go_wp2_with (fail)
          go_ret
          exact ⟨rfl, HB4.out⟩
        · clear hr2
          go_wp2_with (fail)
          refine HAW.out.mono ?_
          rintro e w4 ⟨rfl, hb4⟩
          have HB4 := Lib.hid (bl_then HB3.out hb4)
          clear hb4
          go_wp2_with (fail)
          go_ret
          exact ⟨rfl, HB4.out⟩
      · have HR1 := Lib.hid hr1
        clear hr1
        go_wp2_with (fail)
        refine HC3.out.mono ?_
        rintro e w3 har2
        obtain ⟨hb3, har2⟩ := allQ_ou har2
        have HB3 := Lib.hid (bl_then HB2.out hb3)
        have HR13 := Lib.hid (HR1.out.below hb3)
        have HAW := Lib.hid (awake_any w3)
        clear hb3
        rcases har2 with ⟨rfl, ha2⟩ | ⟨o2, A3, c3, rfl, ha2, hl2, hc3, hm2, hr2⟩
        · go_wp2_with (fail)
          refine HAW.out.mono ?_
          rintro e w4 ⟨rfl, hb4⟩
          have HB4 := Lib.hid (bl_then HB3.out hb4)
          clear hb4
          go_wp2_with (fail)
          go_ret
          exact ⟨rfl, HB4.out⟩
        · have HO1 := Lib.hid (of_any A1 c1 (o1.map (otV FT jj)) K w3 HR13.out (by rw [List.length_map]; exact hc1) hm1 (by rw [List.length_map]; omega))
          have HR2 := Lib.hid hr2
          have HL1 := Lib.hid hl1
          have HL2 : Hid (o2.length ≤ 3000 * l.length) := Lib.hid (by rw [List.length_map] at hl2; exact hl2)
          have HEQ := Lib.hid (HLAW.out o1 o2 ha1 ha2)
          rw [List.length_map] at HO1
          have hc1' := hc1
          clear hr2 hl1 hl2 ha1 ha2
          go_wp2_with (fail)
          refine HO1.out.mono ?_
          rintro e w4 ⟨v4, rfl, ho4, hb4⟩
          have HB4 := Lib.hid (bl_then HB3.out hb4)
          have HO4 := Lib.hid ho4
          have HO2 := Lib.hid (of_any A3 c3 (o2.map (otV FT jj)) K w4 (HR2.out.below hb4) (by rw [List.length_map]; exact hc3) hm2 (by rw [List.length_map]; have := HL2.out; omega))
          rw [List.length_map] at HO2
          clear ho4 hb4
          go_wp2_with (fail)
          refine HO2.out.mono ?_
          rintro e w5 ⟨v5, rfl, ho5, hb5⟩
          have HB5 := Lib.hid (bl_then HB4.out hb5)
          have ho45 := own_below HO4.out hb5
          rw [HEQ.out] at ho45
          obtain ⟨A6, c6, hv6, hl6, hm6, hr6⟩ := own_rdo ho45
          obtain ⟨A7, c7, hv7, hl7, hm7, hr7⟩ := own_rdo ho5
          have HSA := Lib.hid (sameo_any A6 A7 c6 c7 _ _ w5 hr6 hr7 hl6 hl7 hm6 hm7)
          rw [decide_eq_true rfl, ← hv6, ← hv7] at HSA
          clear ho45 ho5 hb5 hr6 hr7 hv6 hv7 hl6 hl7
          go_wp2_with (fail)
          refine HSA.out.mono ?_
          rintro e w6 ⟨rfl, hb6⟩
          have HB6 := Lib.hid (bl_then HB5.out hb6)
          have HAW2 := Lib.hid (awake_any w6)
          clear hb6
          go_wp2_with (fail)
          refine HAW2.out.mono ?_
          rintro e w7 ⟨rfl, hb7⟩
          have HB7 := Lib.hid (bl_then HB6.out hb7)
          clear hb7
          go_wp2_with (fail)
          go_ret
          exact ⟨rfl, HB7.out⟩
/-- ModelApart, walked. -/
theorem mapart_law (j : Jb) (l : List Ev) (A : Option Addr) (c : Nat) (K O : ByteArray) (w : World) (hA : RdP w j.A j.ops) (hc : j.ops.length ≤ j.c) (hcb : j.c ≤ 9223372036854775807) (ht : Tab w) (hE : RdE w A l) (hlc : l.length ≤ c) (hcm : c ≤ 9223372036854775807) (hk : okN O) : Calls Tryz.prog 5 #[jbV j, .slice A l.length c, .string K, .string O] w fun e w' => e = .returned (.bool true) ∧ Below w.heap.size w w' := by
  by_cases h : 60 < l.length ∨ 8 < j.ops.length ∨ K = O ∨ 64 < O.size
  · exact apart_early j l A c K O w hk h
  · have h1 : ¬ 60 < l.length := fun hh => h (.inl hh)
    have h2 : ¬ 8 < j.ops.length := fun hh => h (.inr (.inl hh))
    have h4 : ¬ 64 < O.size := fun hh => h (.inr (.inr (.inr hh)))
    exact apart_main j l A c K O w hA hc hcb ht hE hlc hcm (by omega) (by omega) (fun hh => h (.inr (.inr (.inl hh)))) (by omega)
end Go.Proofs.YtfojblbnhapedaaGreatDoor
