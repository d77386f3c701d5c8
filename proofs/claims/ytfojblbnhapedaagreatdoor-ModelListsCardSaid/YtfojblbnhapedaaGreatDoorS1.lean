/- The comparisons by which windows and places are sorted. Conditions: as each theorem states them. -/
import Derived.Test.YtfojblbnhapedaaGreatDoorSh
import Derived.Test.YtfojblbnhapedaaGreatDoorG1
import Derived.Test.YtfojblbnhapedaaGreatDoorQ0
namespace Go.Proofs.YtfojblbnhapedaaGreatDoor
open Go.RowKit Go.Sort Go.Shelf Go.Lib
set_option linter.unusedVariables false
set_option linter.unusedSimpArgs false

/-- Some draws on, and some blocks behind. -/
def Gr (w w' : World) : Prop := ∃ q os, w' = grow (w.drewN q) os
theorem Gr.refl (w : World) : Gr w w := ⟨0, #[], by rw [grow_empty]; rfl⟩
theorem drewN_add (w : World) (a b : Nat) : (w.drewN a).drewN b = w.drewN (a + b) := by
  simp [World.drewN, Nat.add_assoc]
theorem drewN_grow (w : World) (os : Array Obj) (b : Nat) : (grow w os).drewN b = grow (w.drewN b) os := rfl
theorem Gr.trans {a b c : World} (h : Gr a b) (k : Gr b c) : Gr a c := by
  obtain ⟨q, os, rfl⟩ := h
  obtain ⟨q', os', rfl⟩ := k
  exact ⟨q + q', os ++ os', by rw [drewN_grow, drewN_add, grow_grow]⟩
theorem Gr.drewN {a b : World} (h : Gr a b) (n : Nat) : Gr a (b.drewN n) := h.trans ⟨n, #[], by rw [grow_empty]⟩
theorem Gr.drew {a b : World} (h : Gr a b) : Gr a b.drew := h.drewN 1
theorem Gr.alloc {a b : World} (h : Gr a b) (o : Obj) : Gr a (b.alloc o) := h.trans ⟨0, #[o], by rw [alloc_eq_grow]; rfl⟩
section
theorem flat_len {α : Type} (enc : α → List Value) (k : Nat) (hk : ∀ x, (enc x).length = k) : ∀ l : List α, (l.flatMap enc).length = l.length * k
  | [] => by simp
  | x :: l => by rw [List.flatMap_cons, List.length_append, flat_len enc k hk l, hk, List.length_cons, Nat.succ_mul]; omega
theorem flat_at {α : Type} (enc : α → List Value) (k : Nat) (hk0 : 0 < k) (hk : ∀ x, (enc x).length = k) : ∀ (l : List α) (t : Nat), (l.flatMap enc)[t]? = (l[t / k]?).bind (fun x => (enc x)[t % k]?)
  | [], t => by simp
  | x :: l, t => by
    rw [List.flatMap_cons]
    by_cases ht : t < k
    · rw [List.getElem?_append_left (by rw [hk]; exact ht), Nat.div_eq_of_lt ht, Nat.mod_eq_of_lt ht]
      rfl
    · rw [List.getElem?_append_right (by rw [hk]; omega), hk, flat_at enc k hk0 hk l (t - k)]
      have e1 : t / k = (t - k) / k + 1 := by
        have := Nat.div_eq_sub_div hk0 (show k ≤ t by omega)
        exact this
      have e2 : t % k = (t - k) % k := Nat.mod_eq_sub_mod (by omega)
      rw [e1, e2]
      rfl
variable {α : Type} [Inhabited α]
theorem flat_get (enc : α → List Value) (k : Nat) (hk0 : 0 < k) (hk : ∀ x, (enc x).length = k) (d : Array α) (t : Nat) (h : t < d.size * k) : (flatK enc k d)[t]? = (d.toList.flatMap enc)[t]? := by
  rw [flat_at enc k hk0 hk]
  have h3 : t / k < d.size := (Nat.div_lt_iff_lt_mul hk0).2 h
  have hs : t < (flatK enc k d).size := by rw [size_flatK]; exact h
  have e1 := get_flatK enc k d t h
  rw [getElem!_pos _ t hs] at e1
  rw [Array.getElem?_eq_getElem hs, e1]
  have h4 : d.toList[t / k]? = some d[t / k]! := by
    rw [getElem!_pos d (t / k) h3]
    simp [h3]
  rw [h4]
  show some _ = (enc d[t / k]!)[t % k]?
  have h5 : t % k < (enc d[t / k]!).length := by rw [hk]; exact Nat.mod_lt _ hk0
  rw [getElem!_pos _ (t % k) h5, List.getElem?_eq_getElem h5]
/-- The library's sort, the order being any strict weak one. -/
theorem sort_row {ρ : Ren} (L : Go.Proofs.SlLaysF0.n6 Tryz.prog ρ) (k : Nat) (hk0 : 0 < k) (aE : ∀ w, (isAgg (ρ.t 24)).run Tryz.prog w = .ok true w) (zE : ∀ w, (Go.sizeOf (ρ.t 24)).run Tryz.prog w = .ok k w) (enc : α → List Value) (hk : ∀ x, (enc x).length = k) (h1 : ∀ x, ∀ v ∈ enc x, v.oneCell' = true)
    (cf : α → α → Int) (hO : SWO (ltOf cf)) (g : Nat) (eg : ∀ args w, (callFunc g args).run Tryz.prog w = .ok (.enter g args) w) (B n : Nat) (vo : Value) (l : List α) (w : World) (h : w.ownsRow B (ρ.t 24) k vo n (l.flatMap enc)) (hl : l.length = n) (hn : n ≤ 1000000)
    (hcmp : ∀ blk off size, CmpLays Tryz.prog g #[] enc k cf blk off size w) :
    Calls Tryz.prog (ρ.f 6) #[vo, .func (.func g) #[] #[]] w fun e w' => e = .returned (.tuple #[]) ∧ ∃ l' : List α, l'.Perm l ∧ l'.Pairwise (fun x y => ltOf cf y x = false) ∧ w'.ownsRow B (ρ.t 24) k vo n (l'.flatMap enc) ∧ Kw (fun b => vo.ownBlock = some b) w w' := by
  by_cases h0 : n = 0
  · subst h0
    have hl0 : l = [] := List.length_eq_zero_iff.1 hl
    subst hl0
    obtain ⟨p, cap, rfl⟩ : ∃ p cap, vo = .slice p 0 cap := by
      rcases h.2 with ⟨rfl, _⟩ | ⟨g, cap, cur, rfl, _⟩
      · exact ⟨_, _, rfl⟩
      · exact ⟨_, _, rfl⟩
    refine (AnyF.slices_SortFunc_none L p cap _ w).mono ?_
    rintro e w' ⟨rfl, rfl⟩
    exact ⟨rfl, [], List.Perm.refl _, List.Pairwise.nil, h, Kw.refl _ _⟩
  · rcases h.2 with ⟨_, hz⟩ | ⟨b, cap, cur, rfl, hB, hg, hnc, hcm, hcs, hct⟩
    · exact absurd hz h0
    have hgl := (Array.getElem?_eq_some_iff.1 hg).1
    have hfl := flat_len enc k hk l
    have hH : HoldsK enc k w b 0 l.toArray := by
      intro j hj
      rw [size_flatK] at hj
      have hj' : j < n * k := by simpa [hl] using hj
      have hs : j < (flatK enc k l.toArray).size := by rw [size_flatK]; exact hj
      refine ⟨?_, froz_of hg _⟩
      have e1 := flat_get enc k hk0 hk l.toArray j hj
      rw [Array.getElem?_eq_getElem hs] at e1
      rw [getElem!_pos _ j hs]
      show w.cell? ⟨b, 0 + j, none⟩ = some _
      rw [Nat.zero_add]
      refine Eq.trans ?_ e1.symm
      show w.cell? _ = (l.flatMap enc)[j]?
      rw [← hct, List.getElem?_take, if_pos hj']
      simp [World.cell?, hg]
    have hcon := AnyQ.slices_SortFunc L k aE zE enc hk h1 cf hO g #[] b 0 cap l.toArray w eg (hcmp b 0 _) hH hgl (by simp; omega)
    have hsz : l.toArray.size = n := by simpa using hl
    rw [hsz] at hcon
    refine hcon.mono ?_
    rintro e w' ⟨rfl, d', m, os, ⟨hs0, _, hp⟩, hso, rfl⟩
    have hs1 : d'.size = n := by rw [hs0, hsz]
    have hp2 : d'.toList.Perm l := by
      have e1 : d'.extract 0 n = d' := by rw [← hs1]; exact Array.extract_size
      have e2 : l.toArray.extract 0 n = l.toArray := by rw [← hsz]; exact Array.extract_size
      rw [e1, e2] at hp
      simpa using hp
    have hfl2 := flat_len enc k hk d'.toList
    rw [show d'.toList.length = n by simpa using hs1] at hfl2
    have hput : (putRow id (Sort.ahead w m) b 0 (flatK enc k d')).heap[b]? = some (Obj.cells (putCells id 0 (flatK enc k d') cur) (ρ.t 24) (0, 0)) := by
      simp [putRow, mapBlock, Sort.ahead, Array.getElem?_modify, hg, onCells]
    have hblk : (sortWorldK enc k w b 0 m d' os).heap[b]? = some (Obj.cells (putCells id 0 (flatK enc k d') cur) (ρ.t 24) (0, 0)) := by
      show ((putRow id (Sort.ahead w m) b 0 (flatK enc k d')).heap ++ os)[b]? = _
      rw [Array.getElem?_append_left (Array.getElem?_eq_some_iff.1 hput).1]
      exact hput
    have hps : (putRow id (Sort.ahead w m) b 0 (flatK enc k d')).heap.size = w.heap.size := by simp [putRow, mapBlock, Sort.ahead]
    refine ⟨rfl, d'.toList, hp2, ?_, ⟨by rw [hfl2], .inr ⟨b, cap, _, rfl, hB, hblk, hnc, hcm, by simp [putCells, hcs], ?_⟩⟩, ⟨rfl, rfl, rfl, ?_, ?_⟩⟩
    · rw [List.pairwise_iff_getElem]
      intro i j hi hj hij
      have hi' : i < d'.size := by simpa using hi
      have hj' : j < d'.size := by simpa using hj
      have := hso i j (Nat.zero_le _) hij (by omega)
      rw [getElem!_pos d' j hj', getElem!_pos d' i hi'] at this
      simpa using this
    · apply List.ext_getElem?
      intro t
      rw [List.getElem?_take]
      split
      · rename_i ht
        have ht2 : t < d'.size * k := by rw [hs1]; exact ht
        have e1 := flat_get enc k hk0 hk d' t ht2
        have hs2 : t < (flatK enc k d').size := by rw [size_flatK]; exact ht2
        have htc : t < cur.size := by have : n * k ≤ cap * k := Nat.mul_le_mul_right k hnc; omega
        rw [Array.getElem?_toList]
        simp only [putCells, Array.getElem?_mapIdx, Array.getElem?_eq_getElem htc, Option.map_some]
        rw [if_pos ⟨by omega, by omega⟩]
        rw [Nat.sub_zero, getElem!_pos _ t hs2]
        rw [Array.getElem?_eq_getElem hs2] at e1
        exact e1
      · rename_i ht
        rw [List.getElem?_eq_none (by rw [hfl2]; omega)]
    · show w.heap.size ≤ ((putRow id (Sort.ahead w m) b 0 _).heap ++ os).size
      rw [Array.size_append, hps]
      omega
    · intro i hi hne
      show ((putRow id (Sort.ahead w m) b 0 _).heap ++ os)[i]? = _
      have hbg : b ≠ i := fun e => hne (by rw [e]; rfl)
      rw [Array.getElem?_append_left (by rw [hps]; exact hi)]
      simp [putRow, mapBlock, Sort.ahead, Array.getElem?_modify, hbg]
end
end Go.Proofs.YtfojblbnhapedaaGreatDoor
namespace Go.Proofs.YtfojblbnhapedaaGreatDoor
open Go.RowKit Go.Sort Go.Shelf Go.Lib
set_option linter.unusedVariables false
set_option linter.unusedSimpArgs false

theorem nan_64 (a : Int) (w : World) : Calls Tryz.prog 89 #[.int .i64 a] w fun e w' => e = .returned (.bool false) ∧ w = w' := by
  go_enter Tryz.func89, Tryz.ntmps89
  go_wp2
  go_ret
  exact ⟨rfl, rfl⟩
theorem nan_int (a : Int) (w : World) : Calls Tryz.prog 90 #[.int .i64 a] w fun e w' => e = .returned (.bool false) ∧ w = w' := by
  go_enter Tryz.func90, Tryz.ntmps90
  go_wp2
  go_ret
  exact ⟨rfl, rfl⟩
theorem nan_str (a : ByteArray) (w : World) : Calls Tryz.prog 91 #[.string a] w fun e w' => e = .returned (.bool false) ∧ w = w' := by
  go_enter Tryz.func91, Tryz.ntmps91
  go_wp2
  go_ret
  exact ⟨rfl, rfl⟩
def cmpI (a b : Int) : Int := if a < b then -1 else if b < a then 1 else 0
def lessS (a b : ByteArray) : Bool := Op.bytesLess a.toList b.toList
def cmpS (a b : ByteArray) : Int := if lessS a b then -1 else if a.toList == b.toList then 0 else 1
set_option maxHeartbeats 1000000 in
theorem compare_64 (a b : Int) (w : World) : Calls Tryz.prog 69 #[.int .i64 a, .int .i64 b] w fun e w' => e = .returned (.int .i64 (cmpI a b)) ∧ w = w' := by
  unfold cmpI
  go_enter Tryz.func69, Tryz.ntmps69
  go_wp2_with (fail)
  refine (nan_64 a w).mono ?_
  rintro e w1 ⟨rfl, rfl⟩
  go_wp2_with (fail)
  refine (nan_64 b w).mono ?_
  rintro e w1 ⟨rfl, rfl⟩
  rcases Int.lt_trichotomy a b with h | h | h
  · have h2 : ¬ b < a := by omega
    go_wp2
    go_ret
    exact ⟨ret_int (by simp [h]), rfl⟩
  · subst h
    go_wp2
    go_ret
    exact ⟨ret_int (by simp), rfl⟩
  · have h2 : ¬ a < b := by omega
    go_wp2
    go_ret
    exact ⟨ret_int (by simp [h, h2]), rfl⟩
set_option maxHeartbeats 1000000 in
theorem compare_int (a b : Int) (w : World) : Calls Tryz.prog 70 #[.int .i64 a, .int .i64 b] w fun e w' => e = .returned (.int .i64 (cmpI a b)) ∧ w = w' := by
  unfold cmpI
  go_enter Tryz.func70, Tryz.ntmps70
  go_wp2_with (fail)
  refine (nan_int a w).mono ?_
  rintro e w1 ⟨rfl, rfl⟩
  go_wp2_with (fail)
  refine (nan_int b w).mono ?_
  rintro e w1 ⟨rfl, rfl⟩
  rcases Int.lt_trichotomy a b with h | h | h
  · have h2 : ¬ b < a := by omega
    go_wp2
    go_ret
    exact ⟨ret_int (by simp [h]), rfl⟩
  · subst h
    go_wp2
    go_ret
    exact ⟨ret_int (by simp), rfl⟩
  · have h2 : ¬ a < b := by omega
    go_wp2
    go_ret
    exact ⟨ret_int (by simp [h, h2]), rfl⟩
set_option maxHeartbeats 1000000 in
theorem compare_str (a b : ByteArray) (w : World) : Calls Tryz.prog 71 #[.string a, .string b] w fun e w' => e = .returned (.int .i64 (cmpS a b)) ∧ w = w' := by
  unfold cmpS lessS
  go_enter Tryz.func71, Tryz.ntmps71
  go_wp2_with (fail)
  refine (nan_str a w).mono ?_
  rintro e w1 ⟨rfl, rfl⟩
  go_wp2_with (fail)
  refine (nan_str b w).mono ?_
  rintro e w1 ⟨rfl, rfl⟩
  cases h1 : Op.bytesLess a.toList b.toList
  · cases h2 : (a.toList == b.toList)
    · go_wp2
      all_goals (go_ret; exact ⟨ret_int (by simp_all), rfl⟩)
    · go_wp2
      all_goals (go_ret; exact ⟨ret_int (by simp_all), rfl⟩)
  · go_wp2
    all_goals (go_ret; exact ⟨ret_int (by simp_all), rfl⟩)
/-- What cmp.Or answers of four numbers: the first that is not 0. -/
def orI (a b c d : Int) : Int := if a = 0 then (if b = 0 then (if c = 0 then d else c) else b) else a
set_option maxRecDepth 100000 in
set_option maxHeartbeats 4000000 in
theorem or_gr (g : Nat) (x y z u : Int) (w : World) (h0 : w.cell? ⟨g, 0, none⟩ = some (.int .i64 x)) (h1 : w.cell? ⟨g, 1, none⟩ = some (.int .i64 y)) (h2 : w.cell? ⟨g, 2, none⟩ = some (.int .i64 z)) (h3 : w.cell? ⟨g, 3, none⟩ = some (.int .i64 u)) :
    Calls Tryz.prog 68 #[.slice (some ⟨g, 0, none⟩) 4 4] w fun e w' => e = .returned (.int .i64 (orI x y z u)) ∧ Gr w w' := by
  unfold orI
  by_cases hx : x = 0
  · subst hx
    by_cases hy : y = 0
    · subst hy
      by_cases hz : z = 0
      · subst hz
        by_cases hu : u = 0
        · subst hu
          go_enter Tryz.func68, Tryz.ntmps68
          go_wp2_with (fail)
          refine wp_loop_rounds 5 ?_
          iterate 5
            rw [rounds_succ]
            go_wp2_with (fail)
          go_ret
          exact ⟨ret_int (by simp), by repeat first | exact Gr.refl _ | refine Gr.drew ?_⟩
        · go_enter Tryz.func68, Tryz.ntmps68
          go_wp2_with (fail)
          refine wp_loop_rounds 4 ?_
          iterate 4
            rw [rounds_succ]
            go_wp2_with (fail)
          go_ret
          exact ⟨ret_int (by simp), by repeat first | exact Gr.refl _ | refine Gr.drew ?_⟩
      · go_enter Tryz.func68, Tryz.ntmps68
        go_wp2_with (fail)
        refine wp_loop_rounds 3 ?_
        iterate 3
          rw [rounds_succ]
          go_wp2_with (fail)
        go_ret
        exact ⟨ret_int (by simp [hz]), by repeat first | exact Gr.refl _ | refine Gr.drew ?_⟩
    · go_enter Tryz.func68, Tryz.ntmps68
      go_wp2_with (fail)
      refine wp_loop_rounds 2 ?_
      iterate 2
        rw [rounds_succ]
        go_wp2_with (fail)
      go_ret
      exact ⟨ret_int (by simp [hy]), by repeat first | exact Gr.refl _ | refine Gr.drew ?_⟩
  · go_enter Tryz.func68, Tryz.ntmps68
    go_wp2_with (fail)
    refine wp_loop_rounds 1 ?_
    rw [rounds_succ]
    go_wp2_with (fail)
    go_ret
    exact ⟨ret_int (by simp [hx]), by repeat first | exact Gr.refl _ | refine Gr.drew ?_⟩
set_option maxRecDepth 100000 in
set_option maxHeartbeats 4000000 in
/-- Windows are sorted by where they begin. -/
theorem cmpw_gr (a b c d : Int) (w : World) : Calls Tryz.prog 74 #[.agg #[.int .i64 a, .int .i64 b], .agg #[.int .i64 c, .int .i64 d]] w fun e w' => e = .returned (.int .i64 (cmpI a c)) ∧ Gr w w' := by
  go_enter Tryz.func74, Tryz.ntmps74
  go_wp2_with (fail)
  refine (compare_64 a c _).mono ?_
  rintro e w1 ⟨rfl, rfl⟩
  go_wp2_with (fail)
  go_ret
  exact ⟨rfl, by repeat first | exact Gr.refl _ | refine Gr.drew ?_ | refine Gr.alloc ?_ _⟩
end Go.Proofs.YtfojblbnhapedaaGreatDoor
