/- The walk of ModelApart. Conditions: as each theorem states them. -/
import Derived.Test.YtfojblbnhapedaaGreatDoorX9
import Derived.Test.YtfojblbnhapedaaGreatDoorX8
import Derived.Test.YtfojblbnhapedaaGreatDoorR4
namespace Go.Proofs.YtfojblbnhapedaaGreatDoor
open Go.RowKit Go.Maps
set_option linter.unusedVariables false
set_option linter.unusedSimpArgs false

theorem all_any (j : Jb) (l : List Ev) (A : Option Addr) (c : Nat) (w : World) (hA : RdP w j.A j.ops) (hc : j.ops.length ≤ j.c) (hcb : j.c ≤ 9223372036854775807) (ht : Tab w) (hE : RdE w A l) (hlc : l.length ≤ c) (hcm : c ≤ 9223372036854775807) (hl : l.length ≤ 61) : Calls Tryz.prog 18 #[jbV j, .slice A l.length c] w (AllR w j l) := by
  by_cases hj : jobP j
  · exact all_yes j l A c w hA hc hcb hj ht hE hlc hcm hl
  · exact all_no j l A c w hA hc hcb hj
def evrow (l : List Ev) : List Value := l.flatMap evcells
theorem evrow_app (l m : List Ev) : evrow (l ++ m) = evrow l ++ evrow m := List.flatMap_append
theorem evrow_one (l : List Ev) : ∀ u ∈ evrow l, u.oneCell' = true := by
  intro u hu
  obtain ⟨o, _, ho⟩ := List.mem_flatMap.1 hu
  unfold evcells at ho
  simp only [List.mem_cons, List.not_mem_nil, or_false] at ho
  rcases ho with rfl | rfl | rfl | rfl | rfl <;> rfl
theorem evrow_at : ∀ (l : List Ev) (i : Nat) (h : i < l.length), (evrow l)[i * 5]? = some (.int .i64 (l[i]).k) ∧ (evrow l)[i * 5 + 1]? = some (.int .i64 (l[i]).src) ∧ (evrow l)[i * 5 + 2]? = some (.int .i64 (l[i]).t) ∧ (evrow l)[i * 5 + 3]? = some (.string (l[i]).key) ∧ (evrow l)[i * 5 + 4]? = some (.int .i64 (l[i]).v)
  | [], i, h => absurd h (Nat.not_lt_zero _)
  | o :: l, 0, h => ⟨rfl, rfl, rfl, rfl, rfl⟩
  | o :: l, i + 1, h => by
    have ih := evrow_at l i (by simpa using h)
    have e : ∀ k, (evrow (o :: l))[(i + 1) * 5 + k]? = (evrow l)[i * 5 + k]? := fun k => by
      rw [show (i + 1) * 5 + k = (i * 5 + k) + 5 from by omega]
      rfl
    exact ⟨(e 0).trans ih.1, (e 1).trans ih.2.1, (e 2).trans ih.2.2.1, (e 3).trans ih.2.2.2.1, (e 4).trans ih.2.2.2.2⟩
theorem own_rde {w : World} {base n : Nat} {v : Value} {l : List Ev} (h : w.ownsRow base 26 5 v n (evrow l)) (hn : n = l.length) (ho : ∀ e ∈ l, okN e.key ∧ i64 e.v) : ∃ A c, v = .slice A l.length c ∧ l.length ≤ c ∧ c ≤ 9223372036854775807 ∧ RdE w A l := by
  subst hn
  obtain ⟨A, c, hv, h1, h2, hr⟩ := own_read h (by decide)
  refine ⟨A, c, hv, h1, by simp only [maxLen] at h2; omega, fun hl => ?_, ho⟩
  obtain ⟨g, hA, _, hg, _, hx⟩ := hr hl
  refine ⟨g, 0, hA, hg, fun i hi => ?_⟩
  obtain ⟨h0, h1, h2, h3, h4⟩ := evrow_at l i hi
  rw [Nat.zero_add]
  exact ⟨hx _ _ h0, hx _ _ h1, hx _ _ h2, hx _ _ h3, hx _ _ h4⟩
theorem und49' : Tryz.prog.underlying 49 = some (.slice 26) := by kernel_rfl
theorem i26 : (Tryz.prog.info? 26).map (fun i => (i.zero, i.size, i.bytes)) = some (some (.agg #[.int .i64 0, .int .i64 0, .int .i64 0, .string ⟨#[]⟩, .int .i64 0]), 5, 48) := by kernel_rfl
def jobcells (j : Jb) : Array Value := #[.int .i64 j.groups, .int .i64 j.sources, .int .i64 j.bound, .int .i64 j.late, .slice j.A j.ops.length j.c]
set_option maxRecDepth 100000 in
set_option maxHeartbeats 4000000 in
/-- Too much of it, or nothing to compare. -/
theorem apart_early (j : Jb) (l : List Ev) (A : Option Addr) (c : Nat) (K O : ByteArray) (w : World) (hk : okN O) (h : 60 < l.length ∨ 8 < j.ops.length ∨ K = O ∨ 64 < O.size) : Calls Tryz.prog 5 #[jbV j, .slice A l.length c, .string K, .string O] w fun e w' => e = .returned (.bool true) ∧ Below w.heap.size w w' := by
  have HB := Lib.hid (bl_alloc (Below.refl w.heap.size w) (Obj.cells (jobcells j) 24))
  have HA := Lib.hid (awake_any (w.alloc (Obj.cells (jobcells j) 24)))
  unfold jobcells at HA HB
  obtain ⟨gr, so, bo, la, ops, jA, jc⟩ := j
  unfold jbV
  dsimp only at *
  generalize ops.length = no at *
  generalize l.length = nl at *
  have fin : ∀ (e : Ending) (w' : World), (e = .returned (.bool true) ∧ Below (w.alloc (Obj.cells #[.int .i64 gr, .int .i64 so, .int .i64 bo, .int .i64 la, .slice jA no jc] 24)).heap.size (w.alloc (Obj.cells #[.int .i64 gr, .int .i64 so, .int .i64 bo, .int .i64 la, .slice jA no jc] 24)) w') → e = .returned (.bool true) ∧ Below w.heap.size w w' := fun e w' ⟨h1, h2⟩ => ⟨h1, bl_then HB.out h2⟩
  have HF := Lib.hid fin
  clear fin
  unfold okN at hk
  by_cases h1 : 60 < nl
  · clear h
    go_enter Tryz.func5, Tryz.ntmps5
    go_wp2_with (fail)
    refine HA.out.mono ?_
    rintro e w' he
    obtain ⟨rfl, hb⟩ := HF.out e w' he
    have HB2 := Lib.hid hb
    clear he hb
    go_wp2_with (fail)
    go_ret
    exact ⟨rfl, HB2.out⟩
  · by_cases h2 : 8 < no
    · clear h
      go_enter Tryz.func5, Tryz.ntmps5
      go_wp2_with (fail)
      refine HA.out.mono ?_
      rintro e w' he
      obtain ⟨rfl, hb⟩ := HF.out e w' he
      have HB2 := Lib.hid hb
      clear he hb
      go_wp2_with (fail)
      go_ret
      exact ⟨rfl, HB2.out⟩
    · by_cases h3 : K = O
      · subst h3
        have hkk : (K.toList == K.toList) = true := tl_eq rfl
        clear h
        go_enter Tryz.func5, Tryz.ntmps5
        go_wp2_with (fail)
        refine HA.out.mono ?_
        rintro e w' he
        obtain ⟨rfl, hb⟩ := HF.out e w' he
        have HB2 := Lib.hid hb
        clear he hb
        go_wp2_with (fail)
        go_ret
        exact ⟨rfl, HB2.out⟩
      · have h4 : 64 < O.size := by rcases h with h | h | h | h <;> first | exact absurd h h1 | exact absurd h h2 | exact absurd h h3 | exact h
        have hkk : (K.toList == O.toList) = false := tl_ne h3
        clear h h3
        go_enter Tryz.func5, Tryz.ntmps5
        go_wp2_with (fail)
        refine HA.out.mono ?_
        rintro e w' he
        obtain ⟨rfl, hb⟩ := HF.out e w' he
        have HB2 := Lib.hid hb
        clear he hb
        go_wp2_with (fail)
        go_ret
        exact ⟨rfl, HB2.out⟩
end Go.Proofs.YtfojblbnhapedaaGreatDoor
