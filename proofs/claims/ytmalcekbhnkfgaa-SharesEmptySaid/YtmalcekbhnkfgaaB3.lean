/- Contract of maps.Keys over a map of numbers. Conditions: as each theorem states them. -/
import Derived.Test.YtmalcekbhnkfgaaB2
import Derived.Sort.MapsRangeIn
import Derived.Maps.AppendAt
namespace Go.Proofs.Ytmalcekbhnkfgaa
open Go.RowKit Go.Maps Go.Shelf
set_option linter.unusedVariables false
set_option linter.unusedSimpArgs false
attribute [local go_sem] Oper.semAt_some

/-- A number within its range. -/
abbrev U64 := { x : Int // (Lit.int .u64 x).wf = true }
def encU (x : U64) : Array Value := #[.int .u64 x.1]
/-- What has been collected of a map's keys. -/
def Col (D0 : DataW Unit) (left : Lit → Bool) (ss : List U64) : Prop := ss.Nodup ∧ ∀ x : U64, x ∈ ss ↔ (has D0 (.int .u64 x.1) = true ∧ left (.int .u64 x.1) = false)
theorem Col.start (D0 : DataW Unit) : Col D0 (has D0) [] := ⟨List.nodup_nil, fun x => by cases has D0 (.int .u64 x.1) <;> simp⟩
theorem Col.step {D0 : DataW Unit} {left : Lit → Bool} {ss : List U64} (h : Col D0 left ss) {x : U64} (hlk : left (.int .u64 x.1) = true) (hh : has D0 (.int .u64 x.1) = true) : Col D0 (fun z => left z && !z.sameKey (.int .u64 x.1)) (ss ++ [x]) := by
  obtain ⟨h1, h2⟩ := h
  refine ⟨?_, fun y => ?_⟩
  · rw [List.nodup_append]
    refine ⟨h1, by simp, fun a ha b hb e => ?_⟩
    have := List.mem_singleton.1 hb
    subst this
    subst e
    have := ((h2 a).1 ha).2
    rw [hlk] at this
    cases this
  · rw [List.mem_append, h2 y, List.mem_singleton]
    have hsk : (Lit.int .u64 y.1).sameKey (.int .u64 x.1) = decide (y = x) := by
      by_cases e : y = x
      · subst e
        rw [decide_eq_true rfl]
        simp [Lit.sameKey]
      · rw [decide_eq_false e]
        have : y.1 ≠ x.1 := fun e' => e (Subtype.ext e')
        simp [Lit.sameKey, this]
    show _ ↔ _ ∧ (left (.int .u64 y.1) && !(Lit.int .u64 y.1).sameKey (.int .u64 x.1)) = false
    rw [hsk]
    by_cases e : y = x
    · subst e
      simp [hh]
    · simp [e]
theorem keyOf_u {key : Value} {kl : Lit} (h : keyOf Try.prog 23 key = some kl) : ∃ x : U64, key = .int .u64 x.1 ∧ kl = .int .u64 x.1 := by
  cases key <;> simp [keyOf, u23, mapKey] at h
  all_goals (try (rename_i q x; obtain ⟨⟨rfl, hw⟩, rfl⟩ := h; exact ⟨⟨x, hw⟩, rfl, rfl⟩))
  all_goals (try (rename_i q x; obtain ⟨rfl, hw, rfl⟩ := h; exact ⟨⟨x, hw⟩, rfl, rfl⟩))
set_option maxRecDepth 100000 in
set_option maxHeartbeats 2000000 in
theorem keys1_in (F : Fence) (n : Nat) (h48 : F.fn 48) (hro : F.round = none) (hn : 1 ≤ n) (ly Bm b nn : Nat) (D0 : DataW Unit) (J Jx : List U64 → World → Prop) (W : World) (hJ : AbidesFrom W.heap.size J)
    (hY : ∀ pre x W1, J pre W1 → pre.length < size D0 → YieldAt F (n - 1) Try.prog ly (encU x) W1 fun e W' => (e = .returned (.bool true) ∧ J (pre ++ [x]) W' ∧ KeepsWalks W1 W') ∨ (e = .returned (.bool false) ∧ Jx (pre ++ [x]) W'))
    (hm : W.cell? ⟨Bm, 0, none⟩ = some (.map (some b))) (hown : W.ownsMap Try.prog 23 (plainElem Try.prog 3) b nn D0) (h0 : J [] W) :
    CallsIn F n Try.prog 48 #[.func (.yield ly) #[] #[], .pointer (some ⟨Bm, 0, none⟩)] W fun e W' => (∃ v, e = .returned v) ∧
      ((∃ ys : List U64, (ys.Nodup ∧ ∀ x : U64, x ∈ ys ↔ has D0 (.int .u64 x.1) = true) ∧ J ys W') ∨ (∃ pre, True ∧ Jx pre W')) := by
  refine callsIn_of_wp Try.func48 rfl h48 ?_ hro
  simp only [Try.ntmps48, List.size_toArray, List.length_cons, List.length_nil, Nat.reduceAdd, Nat.reduceSub, Array.replicate_succ, Array.replicate_zero, List.push_toArray, List.append_toArray, List.nil_append, List.cons_append]
  gi_wp2_with (first
    | (gi_at_range; refine wpListIn_range_own _ rfl _ 62 rfl 23 3 K23 u62 _ b nn _ rfl hown ?_; intro w0 hrg0 hg0 hs0)
    | gi_in)
  go_frame
  gi_loopw [3] (fun _ wr => ∃ (left : Lit → Bool) (cnt : Nat) (ss : List U64), wr.ranges Try.prog 23 (plainElem Try.prog 3) b W.heap.size nn D0 left cnt ∧ ss.length + cnt ≤ size D0 ∧ Col D0 left ss ∧ J ss wr)
    (fun _ wr => wr.rangeLeft b W.heap.size)
  case atStart =>
    exact ⟨_, _, [], hrg0, by simp, Col.start D0, hJ [] W w0 none h0 hg0 (fun r e => by cases e)⟩
  case round =>
    obtain ⟨left, cnt, ss, hrg, hcs, hC, hJs⟩ := hrel
    gi_wp2_with (first
      | (gi_at_next; refine wpListIn_next_ranges _ rfl _ rfl 23 K23 (plainElem Try.prog 3) (fun x : U64 => Value.int .u64 x.1) id (fun key kl hk => by obtain ⟨x, hx, _⟩ := keyOf_u hk; exact ⟨x, hx⟩) (fun v _ _ => ⟨v, rfl⟩) b W.heap.size nn _ _ _ rfl hrg ?_ ?_)
      | gi_in)
    · intro hc0 hl0
      gi_wp2
      go_end0
      exact ⟨⟨_, rfl⟩, .inl ⟨ss, ⟨hC.1, fun x => by rw [hC.2 x, hl0]; simp⟩, hJs⟩⟩
    · intro xv xw c kl yd yp w2 cnt2 hkey hlk hv hat hrg2 hlt hg2 hs2 hen
      obtain ⟨x, ex, rfl⟩ := keyOf_u hkey
      obtain rfl : xv = x.1 := by simpa using ex
      have hh : has D0 (.int .u64 x.1) = true := has_true_of_atKey hat
      have hJ2 : J ss w2 := hJ ss wr w2 (some W.heap.size) hJs hg2 (fun r e => by cases e; exact ⟨Nat.le_refl _, hrg.iter_walk⟩)
      obtain ⟨fn, tmps, assign, body, hy, hR⟩ := hY ss x w2 hJ2 (by omega)
      simp only [encU] at hy
      clear hs2
      gi_wp2
      refine hR.mono ?_
      rintro e W3 (⟨rfl, hJ3, hk3⟩ | ⟨rfl, hJx3⟩)
      · gi_wp2
        have hrg3 := hrg2.of_walks hk3
        go_roundw
        case rel => exact ⟨_, cnt2, ss ++ [x], hrg3, by simp; omega, hC.step hlk hh, hJ3⟩
        case measure => rw [hrg3.left_eq, hrg.left_eq]; exact hlt
      · gi_wp2
        refine bodyPost_ret (results_none rfl _ _ _) rfl ?_
        exact ⟨⟨_, rfl⟩, .inr ⟨_, trivial, hJx3⟩⟩
theorem keys_in (F : Fence) (n : Nat) (h38 : F.fn 38) (hro : F.round = none) (mb : Option Nat) (w : World) :
    CallsIn F n Try.prog 38 #[.map mb] w fun e w' => e = .returned (.func (.func 48) #[] #[.pointer (some ⟨w.heap.size, 0, none⟩)]) ∧ w' = w.alloc (.cells #[.map mb] 62) := by
  refine callsIn_of_wp Try.func38 rfl h38 ?_ hro
  simp only [Try.ntmps38, List.size_toArray, List.length_cons, List.length_nil, Nat.reduceAdd, Nat.reduceSub, Array.replicate_succ, Array.replicate_zero, List.push_toArray, List.append_toArray, List.nil_append, List.cons_append]
  gi_wp2
  go_ret
  exact ⟨rfl, rfl⟩
end Go.Proofs.Ytmalcekbhnkfgaa
