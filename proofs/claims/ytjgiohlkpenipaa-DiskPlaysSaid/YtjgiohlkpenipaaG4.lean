/- Contract of slices.Clone at changes. Conditions: as each theorem states them. -/
import Derived.Test.YtjgiohlkpenipaaG3
import Derived.Lib.SliceRun
import Derived.Laws.AppendOwn
namespace Go.Proofs.Ytjgiohlkpenipaa
open Go.RowKit Go.Maps
set_option linter.unusedVariables false
set_option linter.unusedSimpArgs false

theorem eq58 (w : World) (a : Option Addr) (n c : Nat) : (binOp .eql 58 (.slice a n c) (.slice none 0 0)).run Try.prog w = .ok (.bool a.isNone) w :=
  Lib.run_eql_slice_nil (P := Try.prog) w 58 68 a n c 0 0 und58
theorem wcells_one (bk : Nat → Nat) (l : List Ch) : ∀ u ∈ wcells bk l, u.oneCell' = true := by
  intro u hu
  unfold wcells at hu
  obtain ⟨c, _, hc⟩ := List.mem_flatMap.1 hu
  simp only [List.mem_cons, List.not_mem_nil, or_false] at hc
  rcases hc with rfl | rfl | rfl
  · rfl
  · rfl
  · unfold chP
    split <;> rfl
set_option maxRecDepth 100000 in
set_option maxHeartbeats 4000000 in
theorem cloneW_any {W : World} {v : Value} {n : Nat} {l : List Ch} {bk : Nat → Nat} (hr : W.ownsRow 0 68 3 v n (wcells bk l)) (hn : n = l.length) (hlen : n ≤ 1000000) :
    Calls Try.prog 52 #[v] W fun r W' => ∃ v', r = .returned v' ∧ W'.ownsRow W.heap.size 68 3 v' n (wcells bk l) ∧ Below W.heap.size W W' := by
  rcases hr.2 with ⟨h0, h1⟩ | ⟨g, c, cur, h0, hb2, hgc, r⟩
  · subst h0
    have hl0 : l = [] := List.eq_nil_of_length_eq_zero (by omega)
    subst h1
    subst hl0
    have hq := eq58 W none 0 0
    clear hr hn hlen
    go_enter Try.func52, Try.ntmps52
    go_wp2_with (fail)
    go_ret
    exact ⟨_, rfl, ⟨rfl, .inl ⟨rfl, rfl⟩⟩, Below.refl _ _⟩
  · subst h0
    have hq0 := eq58 W (some ⟨g, 0, none⟩) n c
    have hq : (binOp .eql 58 (.slice (some ⟨g, 0, none⟩) n c) (.slice none 0 0)).run Try.prog W = .ok (.bool false) W := hq0
    obtain ⟨i0, hi, hz0, hz1, hz2⟩ := info_parts i68
    have hg1 : (W.alloc (Obj.cells #[] 68)).heap[g]? = some (Obj.cells cur 68) := ((Below.refl W.heap.size W).alloc (Nat.le_refl _) _).block g (Array.getElem?_eq_some_iff.1 hgc).1 |>.trans hgc
    have HOWN : Hid ((W.alloc (Obj.cells #[] 68)).ownsRow W.heap.size 68 3 (.slice (some ⟨W.heap.size, 0, none⟩) 0 0) 0 []) := Lib.hid ⟨rfl, .inr ⟨W.heap.size, 0, #[], rfl, Nat.le_refl _, new_heap W _, Nat.le_refl _, Nat.zero_le _, rfl, rfl⟩⟩
    have HNEW : Hid (∀ j u, (wcells bk l)[j]? = some u → (W.alloc (Obj.cells #[] 68)).cell? ((⟨g, 0, none⟩ : Addr).add j) = some u) := Lib.hid (fun j u hu => by
      rw [← r.2.2.2] at hu
      have hj := (List.getElem?_eq_some_iff.1 hu).1
      rw [List.length_take] at hj
      rw [List.getElem?_take_of_lt (by omega), Array.getElem?_toList] at hu
      rw [Addr.add_lit, Nat.zero_add]
      exact (cell_of hg1 j).trans hu)
    have HWL : Hid ((wcells bk l).length = n * 3) := Lib.hid (by rw [wcells_len, hn])
    have HML : Hid (0 + n ≤ maxLen) := Lib.hid (by unfold maxLen; omega)
    have HBY : Hid ((0 + n) * 40 ≤ 140737488355328) := Lib.hid (by omega)
    have HBS : Hid (W.heap.size ≤ (W.alloc (Obj.cells #[] 68)).heap.size) := Lib.hid (by simp)
    have HII := Lib.hid hi
    have HB0 : Hid (Below W.heap.size W (W.alloc (Obj.cells #[] 68))) := Lib.hid ((Below.refl W.heap.size W).alloc (Nat.le_refl _) _)
    clear hr hn r hgc hq0 hg1 hlen hi
    go_enter Try.func52, Try.ntmps52
    go_wp2_with (at_builtin; refine wpList_append_own _ rfl _ _ 58 rfl W.heap.size 68 i0 (.agg #[.string ⟨#[]⟩, .string ⟨#[]⟩, .pointer none]) 3 40 und58 HII.out hz0 hz1 hz2 rfl (by decide) _ 0 [] rfl HOWN.out ⟨g, 0, none⟩ n c (wcells bk l) rfl HWL.out HNEW.out (wcells_one bk l) HML.out HBY.out HBS.out ?_; intro v' w' ho' hg' hv')
    have HO : Hid (w'.ownsRow W.heap.size 68 3 v' n (wcells bk l)) := Lib.hid (by simpa using ho')
    have HB : Hid (Below W.heap.size W w') := Lib.hid (HB0.out.grown hg' HB0.out.size (fun k hk => by cases hk; exact Nat.le_refl _))
    clear ho' hg' hv'
    go_wp2_with (fail)
    go_ret
    exact ⟨_, rfl, HO.out, HB.out⟩
end Go.Proofs.Ytjgiohlkpenipaa
