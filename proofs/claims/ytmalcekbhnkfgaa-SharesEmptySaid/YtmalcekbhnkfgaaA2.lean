/- Contract of shares.may, whole; of the iterator over the files. Conditions: as each theorem states them. -/
import Derived.Test.YtmalcekbhnkfgaaA1
import Derived.RangeFuncNested
import Derived.RangeFuncBound
import Derived.RangeFuncCalls
import Derived.RangeFuncLeaves
import Derived.Shelf.Abstract
import Derived.Shelf.RegionOpen
import Derived.OwnWalkIn
import Derived.TacticsInMore
import Derived.LoopNIn
import Derived.LoopIn
namespace Go.Proofs.Ytmalcekbhnkfgaa
open Go.RowKit Go.Maps Go.Shelf
set_option linter.unusedVariables false
set_option linter.unusedSimpArgs false
attribute [local go_sem] Oper.semAt_some

open Classical in
noncomputable def mayB (p : Pt) : Bool := decide (mayP p)
theorem mayB_t {p : Pt} (h : mayP p) : mayB p = true := by simp [mayB, h]
theorem mayB_f {p : Pt} (h : ¬ mayP p) : mayB p = false := by simp [mayB, h]
set_option maxRecDepth 100000 in
set_option maxHeartbeats 1000000 in
theorem may_any (p : Pt) (w : World) (hA : RdS w w.heap.size p.A p.fs) :
    Calls Try.prog 29 #[ptV p] w fun e w' => e = .returned (.bool (mayB p)) ∧ Below w.heap.size w w' := by
  obtain ⟨id, fs, A, c⟩ := p
  unfold ptV
  dsimp only at *
  by_cases h1 : okN id
  · by_cases h2 : fs.length ≤ 256
    · refine (may_loop id A fs.length c fs w rfl h1 h2 hA).mono ?_
      rintro e w' ⟨rfl, hb⟩
      refine ⟨?_, hb⟩
      by_cases h3 : okFs fs
      · rw [filesB_t h3, mayB_t ⟨h1, h2, h3⟩]
      · rw [filesB_f h3, mayB_f (fun h => h3 h.2.2)]
    · rw [mayB_f (fun h => h2 h.2.1)]
      obtain ⟨n, hn⟩ : ∃ n, fs.length = n := ⟨_, rfl⟩
      rw [hn] at h2 ⊢
      have hde : decide ((256 : Int) < (n : Int)) = true := decide_eq_true (by omega)
      have hd1 : decide (okN id) = true := decide_eq_true h1
      have hmm := @run_makeMap Try.prog
      clear hA hn h2 h1
      go_enter Try.func29, Try.ntmps29
      go_wp2_with (go_at_call 43; refine (numbered_any _ _).mono ?_; rintro e w' ⟨rfl, rfl⟩)
      go_ret
      exact ⟨rfl, bl_alloc (bl_alloc (bl_alloc (Below.refl _ _) _) _) _⟩
  · rw [mayB_f (fun h => h1 h.1)]
    obtain ⟨n, hn⟩ : ∃ n, fs.length = n := ⟨_, rfl⟩
    rw [hn]
    have hd1 : decide (okN id) = false := decide_eq_false h1
    have hmm := @run_makeMap Try.prog
    clear hA hn h1
    go_enter Try.func29, Try.ntmps29
    go_wp2_with (go_at_call 43; refine (numbered_any _ _).mono ?_; rintro e w' ⟨rfl, rfl⟩)
    go_ret
    exact ⟨rfl, bl_alloc (bl_alloc (bl_alloc (Below.refl _ _) _) _) _⟩

/-! The iterator. -/
/-- All files, each with its point's place. -/
def flat : Nat → List Pt → List (Nat × Sh)
  | _, [] => []
  | k, p :: l => p.fs.map (fun f => (k, f)) ++ flat (k + 1) l
theorem flat_append (k : Nat) (l m : List Pt) : flat k (l ++ m) = flat k l ++ flat (k + l.length) m := by
  induction l generalizing k with
  | nil => simp [flat]
  | cons p l ih => simp [flat, ih, Nat.add_assoc, Nat.add_comm 1]
theorem take_snocP {l : List Pt} {i : Nat} (h : i < l.length) : l.take (i + 1) = l.take i ++ [l.getD i zeroP] := by
  rw [getP h, List.take_succ_eq_append_getElem h]
/-- What has come behind i points and k files of the next one. -/
def came (l : List Pt) (i k : Nat) : List (Nat × Sh) := flat 0 (l.take i) ++ ((l.getD i zeroP).fs.take k).map (fun f => (i, f))
theorem came_zero (l : List Pt) : came l 0 0 = [] := by simp [came, flat]
theorem came_next {l : List Pt} {i : Nat} (h : i < l.length) : came l i (l.getD i zeroP).fs.length = came l (i + 1) 0 := by
  unfold came
  rw [take_snocP h, flat_append, List.length_take, Nat.min_eq_left (by omega), List.take_length]
  simp [flat]
theorem came_succ {l : List Pt} {i k : Nat} (hk : k < (l.getD i zeroP).fs.length) : came l i (k + 1) = came l i k ++ [(i, (l.getD i zeroP).fs.getD k zeroS)] := by
  unfold came
  rw [take_snocS hk, List.map_append]
  simp
theorem came_all (l : List Pt) : came l l.length 0 = flat 0 l := by simp [came]
theorem came_prefix {l : List Pt} {i k : Nat} (h : i < l.length) : came l i k <+: flat 0 l := by
  unfold came
  conv => rhs; rw [← List.take_append_drop i l, List.drop_eq_getElem_cons h, flat_append]
  rw [List.prefix_append_right_inj, getP h, List.length_take, Nat.min_eq_left (by omega)]
  refine List.IsPrefix.trans ?_ (List.prefix_append _ _)
  rw [Nat.zero_add]
  exact (List.take_prefix _ _).map _
theorem came_lt {l : List Pt} {i k : Nat} (h : i < l.length) (hk : k < (l.getD i zeroP).fs.length) : (came l i k).length < (flat 0 l).length := by
  have h1 := came_succ hk
  have h2 := (came_prefix (l := l) (k := k + 1) h).length_le
  rw [h1] at h2
  simp at h2
  omega
end Go.Proofs.Ytmalcekbhnkfgaa
