/- The contract of the library's sort at timers. Conditions: as each theorem states them. -/
import Derived.Test.YtlmnnbmihimedaaS1
namespace Go.Proofs.Ytlmnnbmihimedaa
open Go.RowKit Go.Sort Go.Shelf Go.Lib
set_option linter.unusedVariables false
set_option linter.unusedSimpArgs false

instance : Inhabited Tm := ⟨zeroT⟩
def encT (x : Tm) : List Value := [.int .i64 x.t, .string x.k, .string x.s]
theorem tcells_cons (x : Tm) (l : List Tm) : tcells (x :: l) = encT x ++ tcells l := rfl
theorem tcells_length : ∀ l : List Tm, (tcells l).length = l.length * 3
  | [] => rfl
  | x :: l => by rw [tcells_cons, List.length_append, tcells_length l]; simp [encT]; omega
theorem tcells_get : ∀ (l : List Tm) (t : Nat), (tcells l)[t]? = (l[t / 3]?).bind (fun x => (encT x)[t % 3]?)
  | [], t => by simp [tcells]
  | x :: l, t => by
    rw [tcells_cons]
    by_cases ht : t < 3
    · rw [List.getElem?_append_left (by simpa [encT] using ht), show t / 3 = 0 by omega, show t % 3 = t by omega]
      rfl
    · rw [List.getElem?_append_right (by simp [encT]; omega)]
      have hl : (encT x).length = 3 := rfl
      rw [hl, tcells_get l (t - 3), show t / 3 = (t - 3) / 3 + 1 by omega, show (t - 3) % 3 = t % 3 by omega]
      rfl
theorem flat_get (d : Array Tm) (t : Nat) (h : t < d.size * 3) : (flatK encT 3 d)[t]? = (tcells d.toList)[t]? := by
  rw [tcells_get]
  have h3 : t / 3 < d.size := by omega
  have hs : t < (flatK encT 3 d).size := by rw [size_flatK]; exact h
  have e1 := get_flatK encT 3 d t h
  rw [getElem!_pos _ t hs] at e1
  rw [Array.getElem?_eq_getElem hs, e1]
  have h4 : d.toList[t / 3]? = some d[t / 3]! := by
    rw [getElem!_pos d (t / 3) h3]
    simp [h3]
  rw [h4]
  show some _ = (encT d[t / 3]!)[t % 3]?
  have h5 : t % 3 < (encT d[t / 3]!).length := by show t % 3 < 3; omega
  rw [getElem!_pos _ (t % 3) h5, List.getElem?_eq_getElem h5]
theorem swoT : SWO (ltOf cmpT) where
  irrefl x := by
    unfold ltOf
    rw [decide_eq_false_iff_not, cmpT_lt]
    exact ltT_irrefl x
  trans x y z h k := by
    unfold ltOf at *
    rw [decide_eq_true_eq, cmpT_lt] at *
    exact ltT_trans h k
  ntrans x y z h k := by
    unfold ltOf at *
    rw [decide_eq_false_iff_not] at *
    exact leT_iff.1 (leT_trans (leT_iff.2 k) (leT_iff.2 h))
theorem totT (x y : Tm) (h : ltOf cmpT x y = false) (k : ltOf cmpT y x = false) : x = y := by
  unfold ltOf at *
  rw [decide_eq_false_iff_not] at *
  exact leT_antisymm (leT_iff.2 k) (leT_iff.2 h)
/-- The timers in order. -/
def sortT (l : List Tm) : List Tm := l.mergeSort fun x y => !(ltOf cmpT) y x
theorem sortT_perm (l : List Tm) : (sortT l).Perm l := List.mergeSort_perm _ _
theorem sortT_sorted (l : List Tm) : (sortT l).Pairwise leT := by
  have h := List.pairwise_mergeSort (le := fun x y => !(ltOf cmpT) y x) (fun a b c h k => by
    simp only [ltOf, Bool.not_eq_true', decide_eq_false_iff_not] at *
    exact leT_iff.1 (leT_trans (leT_iff.2 h) (leT_iff.2 k))) (fun a b => by
    simp only [ltOf, Bool.or_eq_true, Bool.not_eq_true', decide_eq_false_iff_not]
    rcases leT_total a b with h | h
    · exact .inl (leT_iff.1 h)
    · exact .inr (leT_iff.1 h)) l
  refine h.imp fun {a b} h => ?_
  simp only [ltOf, Bool.not_eq_true', decide_eq_false_iff_not] at h
  exact leT_iff.2 h
theorem cmp_lays (blk off size : Nat) (w : World) : CmpLays Try.prog 13 #[] encT 3 cmpT blk off size w := fun m os dk hs x y => by
  refine (cmp_gr x.t y.t x.k y.k x.s y.s (sortWorldK encT 3 w blk off m dk os) _ rfl).mono ?_
  rintro e w' ⟨rfl, q, os', rfl⟩
  exact ⟨rfl, q, os', rfl⟩
theorem agg23 (w : World) : (isAgg 23).run Try.prog w = .ok true w := by kernel_rfl
theorem size23 (w : World) : (Go.sizeOf 23).run Try.prog w = .ok 3 w := by kernel_rfl
theorem sort_any (B n : Nat) (vo : Value) (l : List Tm) (w : World) (h : w.ownsRow B 23 3 vo n (tcells l)) (hl : l.length = n) (hn : n ≤ 1000000) :
    Calls Try.prog 33 #[vo, .func (.func 13) #[] #[]] w fun e w' => e = .returned (.tuple #[]) ∧ w'.ownsRow B 23 3 vo n (tcells (sortT l)) ∧ Kw (fun b => vo.ownBlock = some b) w w' := by
  have hsl : (sortT l).length = n := by rw [(sortT_perm l).length_eq, hl]
  by_cases h0 : n = 0
  · subst h0
    have hl0 : l = [] := List.length_eq_zero_iff.1 hl
    subst hl0
    obtain ⟨p, cap, rfl⟩ : ∃ p cap, vo = .slice p 0 cap := by
      rcases h.2 with ⟨rfl, _⟩ | ⟨g, cap, cur, rfl, _⟩
      · exact ⟨_, _, rfl⟩
      · exact ⟨_, _, rfl⟩
    refine (AnyF.slices_SortFunc_none laysSort p cap _ w).mono ?_
    rintro e w' ⟨rfl, rfl⟩
    refine ⟨rfl, ?_, Kw.refl _ _⟩
    have : sortT [] = [] := List.length_eq_zero_iff.1 hsl
    rw [this]
    exact h
  · rcases h.2 with ⟨_, hz⟩ | ⟨g, cap, cur, rfl, hB, hg, hnc, hcm, hcs, hct⟩
    · exact absurd hz h0
    have hgl := (Array.getElem?_eq_some_iff.1 hg).1
    have hH : HoldsK encT 3 w g 0 l.toArray := by
      intro j hj
      rw [size_flatK] at hj
      have hj' : j < n * 3 := by simpa [hl] using hj
      have hs : j < (flatK encT 3 l.toArray).size := by rw [size_flatK]; exact hj
      refine ⟨?_, row_frozen hg _⟩
      have e1 := flat_get l.toArray j hj
      rw [Array.getElem?_eq_getElem hs] at e1
      rw [getElem!_pos _ j hs]
      show w.cell? ⟨g, 0 + j, none⟩ = some _
      rw [Nat.zero_add]
      refine Eq.trans ?_ e1.symm
      show w.cell? _ = (tcells l)[j]?
      rw [← hct, List.getElem?_take, if_pos hj']
      simp [World.cell?, hg]
    have eg : ∀ args w, (callFunc 13 args).run Try.prog w = .ok (.enter 13 args) w := enters_of Try.func13 (by kernel_rfl) rfl
    have hcon := AnyQ.slices_SortFunc_total laysSort 3 agg23 size23 encT (fun _ => rfl) (fun x v hv => by simp [encT] at hv; rcases hv with rfl | rfl | rfl <;> rfl) cmpT swoT 13 #[] g 0 cap l.toArray w eg (cmp_lays g 0 _ w) hH hgl (by simp; omega) totT
    have hsz : l.toArray.size = n := by simpa using hl
    rw [hsz] at hcon
    refine hcon.mono ?_
    rintro e w' ⟨rfl, m, os, rfl⟩
    have hblk : (sortWorldK encT 3 w g 0 m (l.toArray.toList.mergeSort fun x y => !(ltOf cmpT) y x).toArray os).heap[g]? = some (Obj.cells (putCells id 0 (flatK encT 3 (sortT l).toArray) cur) 23 (0, 0)) := by
      show ((putRow id (Sort.ahead w m) g 0 (flatK encT 3 (sortT l).toArray)).heap ++ os)[g]? = _
      have h1 : (putRow id (Sort.ahead w m) g 0 (flatK encT 3 (sortT l).toArray)).heap[g]? = some (Obj.cells (putCells id 0 (flatK encT 3 (sortT l).toArray) cur) 23 (0, 0)) := by
        simp [putRow, mapBlock, Sort.ahead, Array.getElem?_modify, hg, onCells]
      rw [Array.getElem?_append_left (Array.getElem?_eq_some_iff.1 h1).1]
      exact h1
    refine ⟨rfl, ⟨by rw [tcells_length, hsl], .inr ⟨g, cap, _, rfl, hB, hblk, hnc, hcm, by simp [putCells, hcs], ?_⟩⟩, ⟨rfl, rfl, rfl, ?_, ?_⟩⟩
    · apply List.ext_getElem?
      intro t
      rw [List.getElem?_take]
      split
      · rename_i ht
        have ht2 : t < (sortT l).toArray.size * 3 := by simp [hsl]; exact ht
        have e1 := flat_get (sortT l).toArray t ht2
        have hs2 : t < (flatK encT 3 (sortT l).toArray).size := by rw [size_flatK]; exact ht2
        have htc : t < cur.size := by have : n * 3 ≤ cap * 3 := Nat.mul_le_mul_right 3 hnc; omega
        rw [Array.getElem?_toList]
        simp only [putCells, Array.getElem?_mapIdx, Array.getElem?_eq_getElem htc, Option.map_some]
        rw [if_pos ⟨by omega, by omega⟩]
        rw [Nat.sub_zero, getElem!_pos _ t hs2]
        rw [Array.getElem?_eq_getElem hs2] at e1
        exact e1
      · rename_i ht
        rw [List.getElem?_eq_none (by rw [tcells_length, hsl]; omega)]
    · show w.heap.size ≤ ((putRow id (Sort.ahead w m) g 0 _).heap ++ os).size
      rw [Array.size_append]
      have : (putRow id (Sort.ahead w m) g 0 (flatK encT 3 (sortT l).toArray)).heap.size = w.heap.size := by simp [putRow, mapBlock, Sort.ahead]
      have h2 : (putRow id (Sort.ahead w m) g 0 (flatK encT 3 (l.toArray.toList.mergeSort fun x y => !(ltOf cmpT) y x).toArray)).heap.size = w.heap.size := by simp [putRow, mapBlock, Sort.ahead]
      omega
    · intro b hb hne
      show ((putRow id (Sort.ahead w m) g 0 _).heap ++ os)[b]? = _
      have hbg : g ≠ b := fun e => hne (by rw [e]; rfl)
      rw [Array.getElem?_append_left (by simpa [putRow, mapBlock, Sort.ahead] using hb)]
      simp [putRow, mapBlock, Sort.ahead, Array.getElem?_modify, hbg]
end Go.Proofs.Ytlmnnbmihimedaa
