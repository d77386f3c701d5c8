/- Contract of maps.Keys over a map of numbers. Conditions: as each theorem states them. -/
import Derived.Test.YtmalcekbhnkfgaaB2
import Derived.Sort.MapsRangeIn
import Derived.Maps.AppendAt
namespace Go.Proofs.Ytmalcekbhnkfgaa
open Go.RowKit Go.Maps Go.Shelf
set_option linter.unusedVariables false
set_option linter.unusedSimpArgs false
attribute [local go_sem] Oper.semAt_some

/-- A number within its range. -/
abbrev U64 := { x : Int // (Lit.int .u64 x).wf = true }
def encU (x : U64) : Array Value := #[.int .u64 x.1]
/-- What has been collected of a map's keys. -/
def Col (D0 : DataW Unit) (left : Lit → Bool) (ss : List U64) : Prop := ss.Nodup ∧ ∀ x : U64, x ∈ ss ↔ (has D0 (.int .u64 x.1) = true ∧ left (.int .u64 x.1) = false)
theorem Col.start (D0 : DataW Unit) : Col D0 (has D0) [] := ⟨List.nodup_nil, fun x => by cases has D0 (.int .u64 x.1) <;> simp⟩
theorem Col.step {D0 : DataW Unit} {left : Lit → Bool} {ss : List U64} (h : Col D0 left ss) {x : U64} (hlk : left (.int .u64 x.1) = true) (hh : has D0 (.int .u64 x.1) = true) : Col D0 (fun z => left z && !z.sameKey (.int .u64 x.1)) (ss ++ [x]) := by
  obtain ⟨h1, h2⟩ := h
  refine ⟨?_, fun y => ?_⟩
  · rw [List.nodup_append]
    refine ⟨h1, by simp, fun a ha b hb e => ?_⟩
    have := List.mem_singleton.1 hb
    subst this
    subst e
    have := ((h2 a).1 ha).2
    rw [hlk] at this
    cases this
  · rw [List.mem_append, h2 y, List.mem_singleton]
    have hsk : (Lit.int .u64 y.1).sameKey (.int .u64 x.1) = decide (y = x) := by
      by_cases e : y = x
      · subst e
        rw [decide_eq_true rfl]
        simp [Lit.sameKey]
      · rw [decide_eq_false e]
        have : y.1 ≠ x.1 := fun e' => e (Subtype.ext e')
        simp [Lit.sameKey, this]
    show _ ↔ _ ∧ (left (.int .u64 y.1) && !(Lit.int .u64 y.1).sameKey (.int .u64 x.1)) = false
    rw [hsk]
    by_cases e : y = x
    · subst e
      simp [hh]
    · simp [e]
theorem keyOf_u {key : Value} {kl : Lit} (h : keyOf Try.prog 23 key = some kl) : ∃ x : U64, key = .int .u64 x.1 ∧ kl = .int .u64 x.1 := by
  cases key <;> simp [keyOf, u23, mapKey] at h
  all_goals (try (rename_i q x; obtain ⟨⟨rfl, hw⟩, rfl⟩ := h; exact ⟨⟨x, hw⟩, rfl, rfl⟩))
  all_goals (try (rename_i q x; obtain ⟨rfl, hw, rfl⟩ := h; exact ⟨⟨x, hw⟩, rfl, rfl⟩))
set_option maxRecDepth 100000 in
set_option maxHeartbeats 2000000 in
theorem keys1_in (F : Fence) (n : Nat) (h48 : F.fn 48) (hro : F.round = none) (hn : 1 ≤ n) (ly Bm b nn : Nat) (D0 : DataW Unit) (J Jx : List U64 → World → Prop) (W : World) (hJ : AbidesFrom W.heap.size J)
    (hY : ∀ pre x W1, J pre W1 → pre.length < size D0 → YieldAt F (n - 1) Try.prog ly (encU x) W1 fun e W' => (e = .returned (.bool true) ∧ J (pre ++ [x]) W' ∧ KeepsWalks W1 W') ∨ (e = .returned (.bool false) ∧ Jx (pre ++ [x]) W'))
    (hm : W.cell? ⟨Bm, 0, none⟩ = some (.map (some b))) (hown : W.ownsMap Try.prog 23 (plainElem Try.prog 3) b nn D0) (h0 : J [] W) :
    CallsIn F n Try.prog 48 #[.func (.yield ly) #[] #[], .pointer (some ⟨Bm, 0, none⟩)] W fun e W' => (∃ v, e = .returned v) ∧
      ((∃ ys : List U64, (ys.Nodup ∧ ∀ x : U64, x ∈ ys ↔ has D0 (.int .u64 x.1) = true) ∧ J ys W') ∨ (∃ pre, True ∧ Jx pre W')) := by
  refine callsIn_of_wp Try.func48 rfl h48 ?_ hro
  simp only [Try.ntmps48, List.size_toArray, List.length_cons, List.length_nil, Nat.reduceAdd, Nat.reduceSub, Array.replicate_succ, Array.replicate_zero, List.push_toArray, List.append_toArray, List.nil_append, List.cons_append]
  gi_wp2_with (first
    | (gi_at_range; refine wpListIn_range_own _ rfl _ 62 rfl 23 3 K23 u62 _ b nn _ rfl hown ?_; intro w0 hrg0 hg0 hs0)
    | gi_in)
  go_frame
  gi_loopw [3] (fun _ wr => ∃ (left : Lit → Bool) (cnt : Nat) (ss : List U64), wr.ranges Try.prog 23 (plainElem Try.prog 3) b W.heap.size nn D0 left cnt ∧ ss.length + cnt ≤ size D0 ∧ Col D0 left ss ∧ J ss wr)
    (fun _ wr => wr.rangeLeft b W.heap.size)
  case atStart =>
    exact ⟨_, _, [], hrg0, by simp, Col.start D0, hJ [] W w0 none h0 hg0 (fun r e => by cases e)⟩
  case round =>
    obtain ⟨left, cnt, ss, hrg, hcs, hC, hJs⟩ := hrel
    gi_wp2_with (first
      | (gi_at_next; refine wpListIn_next_ranges _ rfl _ rfl 23 K23 (plainElem Try.prog 3) (fun x : U64 => Value.int .u64 x.1) id (fun key kl hk => by obtain ⟨x, hx, _⟩ := keyOf_u hk; exact ⟨x, hx⟩) (fun v _ _ => ⟨v, rfl⟩) b W.heap.size nn _ _ _ rfl hrg ?_ ?_)
      | gi_in)
    · intro hc0 hl0
      gi_wp2
      go_end0
      exact ⟨⟨_, rfl⟩, .inl ⟨ss, ⟨hC.1, fun x => by rw [hC.2 x, hl0]; simp⟩, hJs⟩⟩
    · intro xv xw c kl yd yp w2 cnt2 hkey hlk hv hat hrg2 hlt hg2 hs2 hen
      obtain ⟨x, ex, rfl⟩ := keyOf_u hkey
      obtain rfl : xv = x.1 := by simpa using ex
      have hh : has D0 (.int .u64 x.1) = true := has_true_of_atKey hat
      have hJ2 : J ss w2 := hJ ss wr w2 (some W.heap.size) hJs hg2 (fun r e => by cases e; exact ⟨Nat.le_refl _, hrg.iter_walk⟩)
      obtain ⟨fn, tmps, assign, body, hy, hR⟩ := hY ss x w2 hJ2 (by omega)
      simp only [encU] at hy
      clear hs2
      gi_wp2
      refine hR.mono ?_
      rintro e W3 (⟨rfl, hJ3, hk3⟩ | ⟨rfl, hJx3⟩)
      · gi_wp2
        have hrg3 := hrg2.of_walks hk3
        go_roundw
        case rel => exact ⟨_, cnt2, ss ++ [x], hrg3, by simp; omega, hC.step hlk hh, hJ3⟩
        case measure => rw [hrg3.left_eq, hrg.left_eq]; exact hlt
      · gi_wp2
        refine bodyPost_ret (results_none rfl _ _ _) rfl ?_
        exact ⟨⟨_, rfl⟩, .inr ⟨_, trivial, hJx3⟩⟩
theorem keys_in (F : Fence) (n : Nat) (h38 : F.fn 38) (hro : F.round = none) (mb : Option Nat) (w : World) :
    CallsIn F n Try.prog 38 #[.map mb] w fun e w' => e = .returned (.func (.func 48) #[] #[.pointer (some ⟨w.heap.size, 0, none⟩)]) ∧ w' = w.alloc (.cells #[.map mb] 62) := by
  refine callsIn_of_wp Try.func38 rfl h38 ?_ hro
  simp only [Try.ntmps38, List.size_toArray, List.length_cons, List.length_nil, Nat.reduceAdd, Nat.reduceSub, Array.replicate_succ, Array.replicate_zero, List.push_toArray, List.append_toArray, List.nil_append, List.cons_append]
  gi_wp2
  go_ret
  exact ⟨rfl, rfl⟩
end Go.Proofs.Ytmalcekbhnkfgaa
namespace Go.Proofs.Ytmalcekbhnkfgaa
open Go.RowKit Go.Maps Go.Shelf
set_option linter.unusedVariables false
set_option linter.unusedSimpArgs false
attribute [local go_sem] Oper.semAt_some

/-- Those are a map's keys. -/
def KeysL (D0 : DataW Unit) (ys : List U64) : Prop := ys.Nodup ∧ ∀ x : U64, x ∈ ys ↔ has D0 (.int .u64 x.1) = true
def ucells (l : List U64) : List Value := l.map (fun x => .int .u64 x.1)
theorem keys_stops (F : Fence) (n : Nat) (h48 : F.fn 48) (hro : F.round = none) (hn : 1 ≤ n) (Bm b nn : Nat) (D0 : DataW Unit) (w : World) (hBm : Bm < w.heap.size) (hm : w.cell? ⟨Bm, 0, none⟩ = some (.map (some b))) (hown : w.ownsMap Try.prog 23 (plainElem Try.prog 3) b nn D0) :
    SeqStopsK F n Try.prog 48 #[.pointer (some ⟨Bm, 0, none⟩)] encU KeepsWalks (KeysL D0) (fun _ => True) (size D0) w := fun l J Jx W hW hJ _ hY h0 => by
  have hown' : W.ownsMap Try.prog 23 (plainElem Try.prog 3) b nn D0 := by
    have hbl := hown.lt
    obtain ⟨es, clock, hb, Ft, hs, hD⟩ := hown
    exact ⟨es, clock, (hW.block b hbl).trans hb, Ft, hs, hD⟩
  exact keys1_in F n h48 hro hn l Bm b nn D0 J Jx W hJ hY ((hW.cell (p := ⟨Bm, 0, none⟩) hBm).trans hm) hown' h0
set_option maxRecDepth 100000 in
set_option maxHeartbeats 4000000 in
theorem appendseq_any (Bm b nn : Nat) (D0 : DataW Unit) (w : World) (hBm : Bm < w.heap.size) (hm : w.cell? ⟨Bm, 0, none⟩ = some (.map (some b))) (hown : w.ownsMap Try.prog 23 (plainElem Try.prog 3) b nn D0) (hsz : size D0 ≤ 1000000) :
    Calls Try.prog 49 #[.slice none 0 0, .func (.func 48) #[] #[.pointer (some ⟨Bm, 0, none⟩)]] w fun e w' => ∃ (v : Value) (ys : List U64), e = .returned v ∧ KeysL D0 ys ∧ w'.ownsRow w.heap.size 23 1 v ys.length (ucells ys) ∧ Below w.heap.size w w' := by
  obtain ⟨i0, hi, hz0, hz1, hz2⟩ := info_parts i23
  have HM := Lib.hid hm
  have HOWN := Lib.hid hown
  clear hm hown
  refine (callsIn_wide (n := 10)).1 ?_
  refine callsIn_of_wp_marks Try.func49 rfl trivial ?_ rfl
  refine wpIn_wide.2 ?_
  simp only [Try.ntmps49, List.size_toArray, List.length_cons, List.length_nil, Nat.reduceAdd, Nat.reduceSub, Array.replicate_succ, Array.replicate_zero, List.push_toArray, List.append_toArray, List.nil_append, List.cons_append]
  go_wp2_with (fail)
  have bB := Boxed.new w 38 (.slice none 0 0)
  have hbW : Below w.heap.size w (w.alloc (Obj.cells #[Value.slice none 0 0] 38)) := bl_alloc (Below.refl _ _) _
  have hsW : (w.alloc (Obj.cells #[Value.slice none 0 0] 38)).heap.size = w.heap.size + 1 := by simp
  generalize (w.alloc (Obj.cells #[Value.slice none 0 0] 38)) = WL at *
  have hmL := (hbW.cell (p := ⟨Bm, 0, none⟩) hBm).trans HM.out
  have hownL : WL.ownsMap Try.prog 23 (plainElem Try.prog 3) b nn D0 := by
    have hbl := HOWN.out.lt
    obtain ⟨es, clock, hb, Ft, hs, hD⟩ := HOWN.out
    exact ⟨es, clock, (hbW.block b hbl).trans hb, Ft, hs, hD⟩
  refine (wpIn_wide (n := 10)).1 ?_
  refine wpIn_rangeFunc_ownH rfl (by omega) (gf := 48) (lb := #[.pointer (some ⟨Bm, 0, none⟩)]) rfl trivial (enters_of Try.func48 (by kernel_rfl) rfl)
    (keys_stops Fence.wide (10 - 1) trivial rfl (by omega) Bm b nn D0 WL (by omega) hmL hownL) walksK_t walksK_b (Below.refl _ _) (fun _ => rfl)
    (fun pre W => (∃ v, Boxed W w.heap.size 38 v ∧ W.ownsRow w.heap.size 23 1 v (List.length (α := U64) pre) (ucells pre) ∧ True) ∧ Below w.heap.size w W)
    (fun _ _ _ => False)
    (OwnFrom.and (Own.from (holdsRow_own w.heap.size w.heap.size 38 23 1 (fun pre => List.length (α := U64) pre) (fun pre => ucells pre) (fun _ _ => True)) _) (ownFrom_below (Nat.le_refl _) (by omega)))
    (fun _ _ _ _ _ hs _ _ => hs)
    ⟨⟨_, bB, ⟨rfl, .inl ⟨rfl, rfl⟩⟩, trivial⟩, hbW⟩
    (fun x a' W => a' = { tmps := #[.slice none 0 0, .func (.func 48) #[] #[.pointer (some ⟨Bm, 0, none⟩)], .pointer (some ⟨w.heap.size, 0, none⟩), undef, .slice none 0 0, .int .u64 x.1, .func (.func 48) #[] #[.pointer (some ⟨Bm, 0, none⟩)], .int .u64 x.1, undef, undef, undef, undef, undef], defers := [] })
    (fun _ _ _ _ _ _ hs _ _ => hs)
    ?assign ?body ?done ?stop
  case assign =>
    intro lp pre x W K hI hK
    simp only [encU]
    gi_wp2
    exact hK _ _ (KeepsFrom.refl _ _) (KeepsWalks.refl _) hI rfl
  case body =>
    rintro lp pre x a' W hlp ⟨r, hr⟩ ⟨⟨v, hv, hrow, _⟩, hB⟩ rfl hpl
    have hvc := hv.cell
    have hvf := hv.frozen
    have hBs := hB.size
    have HV := Lib.hid hv
    have HR := Lib.hid hrow
    have HB := Lib.hid hB
    clear hr hB
    obtain ⟨xv, xw⟩ := x
    dsimp only at *
    gi_wp2_with (first
      | (gi_at_builtin; refine wpListIn_append_own _ rfl _ _ 38 rfl w.heap.size 23 i0 (.int .u64 0) 1 8 u38 hi hz0 hz1 hz2 rfl (by decide) _ _ _ rfl (hrow.alloc _) ⟨W.heap.size, 0, none⟩ 1 1 [.int .u64 xv] rfl rfl (cell_one_new _ _ _) (by simp [Value.oneCell']) (by unfold maxLen; omega) (by omega) (by simp; omega) ?_; intro v' w1 hown' hgrow _; obtain ⟨g', cap', rfl⟩ := ownsRow_succ hown'; obtain ⟨hv1, hv2, hr2, hk2, hb2⟩ := hv.appended (by decide) hrow HB.out.size (Nat.le_refl _) hown' hgrow; have hc1 := hv1.cell; have hf1 := hv1.frozen)
      | gi_in)
    refine ⟨hk2.from _, hk2.walks, ⟨⟨_, hv2, ?_, trivial⟩, HB.out.trans hb2⟩⟩
    simpa [ucells] using hr2
  case done =>
    rintro D ys W hD hS ⟨⟨v, hv, hrow, _⟩, hB⟩ hK
    have hvc := hv.cell
    have HR := Lib.hid hrow
    have HB := Lib.hid hB
    have HK := Lib.hid hK
    have HS := Lib.hid hS
    clear hrow hB hK hS
    go_wp2_with (fail)
    refine ⟨by simp, .inl ⟨_, _, rfl, run_takeDeferred HK.out, ?_⟩⟩
    exact ⟨v, by simp [results, Try.f49, go_sem], v, ys, rfl, HS.out, ownsRow_putObj HR.out _ HK.out rfl, HB.out.trans (belowK_b (w := WL) (by omega) W D _ _ hD HK.out rfl rfl)⟩
  case stop =>
    rintro D cd pre W _ _ h _
    exact h.elim
end Go.Proofs.Ytmalcekbhnkfgaa
namespace Go.Proofs.Ytmalcekbhnkfgaa
open Go.RowKit Go.Maps Go.Shelf
set_option linter.unusedVariables false
set_option linter.unusedSimpArgs false

theorem collect_any (Bm b nn : Nat) (D0 : DataW Unit) (w : World) (hBm : Bm < w.heap.size) (hm : w.cell? ⟨Bm, 0, none⟩ = some (.map (some b))) (hown : w.ownsMap Try.prog 23 (plainElem Try.prog 3) b nn D0) (hsz : size D0 ≤ 1000000) :
    Calls Try.prog 46 #[.func (.func 48) #[] #[.pointer (some ⟨Bm, 0, none⟩)]] w fun e w' => ∃ (v : Value) (ys : List U64), e = .returned v ∧ KeysL D0 ys ∧ w'.ownsRow w.heap.size 23 1 v ys.length (ucells ys) ∧ Below w.heap.size w w' := by
  have H := Lib.hid (appendseq_any Bm b nn D0 w hBm hm hown hsz)
  clear hm hown
  go_enter Try.func46, Try.ntmps46
  go_wp2_with (fail)
  refine H.out.mono ?_
  rintro e w2 ⟨v, ys, rfl, hk, hrow, hb⟩
  have HK := Lib.hid hk
  have HR := Lib.hid hrow
  have HB := Lib.hid hb
  clear hk hrow hb
  go_wp2_with (fail)
  go_ret
  exact ⟨v, ys, rfl, HK.out, HR.out, HB.out⟩
theorem own_row {w : World} {B g n cap : Nat} {l : List Int} (h : w.ownsRow B 23 1 (.slice (some ⟨g, 0, none⟩) n cap) n (icells l)) (hl : l.length = n) : RowI w g n (fun i => l.getD i 0) := by
  rcases h.2 with ⟨e, _⟩ | ⟨g', cap', cur, e, hB, hg, h1, h2, h3, h4⟩
  · simp at e
  · simp at e
    obtain ⟨rfl, rfl⟩ := e
    refine ⟨(Array.getElem?_eq_some_iff.1 hg).1, fun i hi => ⟨?_, ?_⟩⟩
    · have hc : (icells l)[i]? = some (.int .u64 (l.getD i 0)) := by
        unfold icells
        rw [List.getElem?_map, List.getElem?_eq_getElem (by omega), List.getD_eq_getElem?_getD, List.getElem?_eq_getElem (by omega)]
        rfl
      rw [← h4, List.getElem?_take] at hc
      split at hc
      · simp only [World.cell?, hg]
        simpa using hc
      · cases hc
    · simp [World.frozen?, hg]
theorem sorted_three (Bm b nn : Nat) (D0 : DataW Unit) (w : World) (hBm : Bm < w.heap.size) (hm : w.cell? ⟨Bm, 0, none⟩ = some (.map (some b))) (hown : w.ownsMap Try.prog 23 (plainElem Try.prog 3) b nn D0) (hsz : size D0 ≤ 1000000) (h3 : ∀ ys, KeysL D0 ys → ys.length = 3) :
    Calls Try.prog 37 #[.func (.func 48) #[] #[.pointer (some ⟨Bm, 0, none⟩)]] w fun e w' => ∃ (g cap : Nat) (ys : List U64) (z : Nat → Int), e = .returned (.slice (some ⟨g, 0, none⟩) 3 cap) ∧ KeysL D0 ys ∧ 3 ≤ cap ∧ w.heap.size ≤ g ∧ RowI w' g 3 z ∧ ((List.range 3).map z).Perm (ys.map Subtype.val) ∧ Ord z 3 ∧ Below w.heap.size w w' := by
  have H := Lib.hid (collect_any Bm b nn D0 w hBm hm hown hsz)
  have H3 := Lib.hid h3
  clear hm hown h3
  go_enter Try.func37, Try.ntmps37
  go_wp2_with (fail)
  refine H.out.mono ?_
  rintro e w2 ⟨v, ys, rfl, hk, hrow, hb⟩
  have hlen := H3.out ys hk
  rw [hlen] at hrow
  obtain ⟨g, cap, rfl⟩ := ownsRow_succ hrow
  have hgB := own_ge hrow g rfl
  have hcap : 3 ≤ cap := by
    rcases hrow.2 with ⟨e, _⟩ | ⟨g', cap', cur, e, hB, hg, h1, _⟩
    · simp at e
    · simp at e; omega
  have hrow' : w2.ownsRow w.heap.size 23 1 (.slice (some ⟨g, 0, none⟩) 3 cap) 3 (icells (ys.map Subtype.val)) := by
    have e : icells (ys.map Subtype.val) = ucells ys := by simp [icells, ucells]
    rw [e]
    exact hrow
  have hR := own_row hrow' (by simp [hlen])
  have HS := Lib.hid (sort_3 g cap _ w2 hR hcap)
  have HK := Lib.hid hk
  have HB := Lib.hid hb
  have hp0 : (List.range 3).map (fun i => (ys.map Subtype.val).getD i 0) = ys.map Subtype.val := by
    apply List.ext_getElem
    · simp [hlen]
    · intro i h1 h2
      simp at h1 h2
      simp [List.getD_eq_getElem?_getD, h2]
  have HP0 := Lib.hid hp0
  clear hrow hrow' hR hk hb hp0
  go_wp2_with (fail)
  refine HS.out.mono ?_
  rintro e w3 ⟨rfl, ⟨z, hz, hp, ho⟩, hk3⟩
  have HZ := Lib.hid hz
  have HP := Lib.hid hp
  have HO := Lib.hid ho
  have HK3 := Lib.hid hk3
  clear hz hp ho hk3
  go_wp2_with (fail)
  go_ret
  have hp := HP.out
  rw [HP0.out] at hp
  exact ⟨g, cap, ys, z, rfl, HK.out, hcap, hgB, HZ.out, hp, HO.out, HB.out.trans (HK3.out.below (by have := HB.out.size; omega) (fun b hb => by omega))⟩
theorem sorted_none (Bm b nn : Nat) (D0 : DataW Unit) (w : World) (hBm : Bm < w.heap.size) (hm : w.cell? ⟨Bm, 0, none⟩ = some (.map (some b))) (hown : w.ownsMap Try.prog 23 (plainElem Try.prog 3) b nn D0) (hsz : size D0 ≤ 1000000) (h3 : ∀ ys, KeysL D0 ys → ys.length = 0) :
    Calls Try.prog 37 #[.func (.func 48) #[] #[.pointer (some ⟨Bm, 0, none⟩)]] w fun e w' => ∃ (A : Option Addr) (cap : Nat), e = .returned (.slice A 0 cap) ∧ Below w.heap.size w w' := by
  have H := Lib.hid (collect_any Bm b nn D0 w hBm hm hown hsz)
  have H3 := Lib.hid h3
  clear hm hown h3
  go_enter Try.func37, Try.ntmps37
  go_wp2_with (fail)
  refine H.out.mono ?_
  rintro e w2 ⟨v, ys, rfl, hk, hrow, hb⟩
  have hlen := H3.out ys hk
  rw [hlen] at hrow
  obtain ⟨A, cap, rfl⟩ : ∃ A cap, v = .slice A 0 cap := by
    rcases hrow.2 with ⟨e, _⟩ | ⟨g', cap', cur, e, _⟩
    · exact ⟨_, _, e⟩
    · exact ⟨_, _, e⟩
  have HS := Lib.hid (sort_0 A cap w2)
  have HB := Lib.hid hb
  clear hrow hk hb hlen
  go_wp2_with (fail)
  refine HS.out.mono ?_
  rintro e w3 ⟨rfl, rfl⟩
  go_wp2_with (fail)
  go_ret
  exact ⟨A, cap, rfl, HB.out⟩
end Go.Proofs.Ytmalcekbhnkfgaa
namespace Go.Proofs.Ytmalcekbhnkfgaa
open Go.RowKit Go.Maps Go.Shelf
set_option linter.unusedVariables false
set_option linter.unusedSimpArgs false

theorem i43 : (Try.prog.info? 43).map (fun i => (i.zero, i.size, i.bytes)) = some (some (.agg #[.int .u64 0, .int .i64 0]), 2, 16) := by kernel_rfl
theorem u39 : Try.prog.underlying 39 = some (.slice 43) := by kernel_rfl
/-- Counts as cells. -/
def cpair (z : Nat → Int) (L : List Int) (i : Nat) : List Value := (List.range i).flatMap (fun j => [.int .u64 (z j), .int .i64 (L.count (z j) : Nat)])
theorem cpair_succ (z : Nat → Int) (L : List Int) (i : Nat) : cpair z L (i + 1) = cpair z L i ++ [.int .u64 (z i), .int .i64 (L.count (z i) : Nat)] := by
  simp [cpair, List.range_succ, List.flatMap_append]
theorem cpair_length (z : Nat → Int) (L : List Int) (i : Nat) : (cpair z L i).length = i * 2 := by
  induction i with
  | zero => rfl
  | succ i ih => rw [cpair_succ, List.length_append, ih]; simp; omega
theorem keysL_cnt {w : World} {b : Nat} {L : List Int} (h : CntAt w b L) : ∃ D, w.ownsMap Try.prog 23 (plainElem Try.prog 3) b L.length D ∧ ∀ ys, KeysL D ys → ys.Nodup ∧ ∀ x : U64, x ∈ ys ↔ x.1 ∈ L := by
  obtain ⟨D, h1, h2⟩ := h
  exact ⟨D, h1, fun ys hy => ⟨hy.1, fun x => by rw [hy.2 x]; exact (h2 x.1 x.2).2⟩⟩
theorem three_keys {ys : List U64} (h1 : ys.Nodup) (h2 : ∀ x : U64, x ∈ ys ↔ x.1 = 7 ∨ x.1 = 8 ∨ x.1 = 9) : (ys.map Subtype.val).Perm [7, 8, 9] := by
  refine (List.perm_ext_iff_of_nodup ?_ (by decide)).2 fun x => ?_
  · exact List.Pairwise.map _ (fun a b h e => h (Subtype.ext e)) h1
  · simp only [List.mem_map, List.mem_cons, List.not_mem_nil, or_false]
    constructor
    · rintro ⟨y, hy, rfl⟩
      exact (h2 y).1 hy
    · intro h
      have hw : (Lit.int .u64 x).wf = true := by rcases h with rfl | rfl | rfl <;> decide
      exact ⟨⟨x, hw⟩, (h2 ⟨x, hw⟩).2 h, rfl⟩
theorem ord_three {z : Nat → Int} (ho : Ord z 3) (hp : ((List.range 3).map z).Perm [7, 8, 9]) : z 0 = 7 ∧ z 1 = 8 ∧ z 2 = 9 := by
  have h01 := ho 0 1 (by omega) (by omega)
  have h12 := ho 1 2 (by omega) (by omega)
  have e : (List.range 3).map z = [z 0, z 1, z 2] := rfl
  rw [e] at hp
  have hs : [z 0, z 1, z 2].Pairwise (· ≤ ·) := by
    simp
    omega
  have h := List.Perm.eq_of_pairwise (le := fun a b : Int => a ≤ b) (fun a b _ _ h1 h2 => Int.le_antisymm h1 h2) hs (by decide) hp
  simpa using h
set_option maxRecDepth 100000 in
set_option maxHeartbeats 4000000 in
theorem counts_three (A : Option Addr) (c : Nat) (l : List Pt) (w : World) (hA : RdP w w.heap.size A l) (hL : ∀ x : U64, x.1 ∈ cntL l ↔ x.1 = 7 ∨ x.1 = 8 ∨ x.1 = 9) (hLl : (cntL l).length ≤ 100) :
    Calls Try.prog 19 #[.slice A l.length c] w fun e w' => ∃ (v : Value) (z : Nat → Int), e = .returned v ∧ (z 0 = 7 ∧ z 1 = 8 ∧ z 2 = 9) ∧ w'.ownsRow w.heap.size 43 2 v 3 (cpair z (cntL l) 3) ∧ Below w.heap.size w w' := by
  obtain ⟨i0, hi, hz0, hz1, hz2⟩ := info_parts i43
  have HC := Lib.hid (counted_any A c l w hA)
  have HL := Lib.hid hL
  have HLl := Lib.hid hLl
  generalize cntL l = L at *
  generalize l.length = n at *
  clear hA hL hLl
  go_enter Try.func19, Try.ntmps19
  go_wp2_with (fail)
  refine HC.out.mono ?_
  rintro e w1 ⟨rfl, hc1, hb1⟩
  have HC1 := Lib.hid hc1
  have HB1 := Lib.hid hb1
  have hs1 := hb1.size
  have hm1 := hc1.lt
  clear hc1 hb1
  go_wp2_with (go_at_call 38; refine (callsIn_wide.1 (keys_in Fence.wide 5 trivial rfl _ _)).mono ?_; rintro e w' ⟨rfl, rfl⟩)
  have hbW : Below w1.heap.size w1 (w1.alloc (Obj.cells #[Value.map (some w.heap.size)] 62)) := bl_alloc (Below.refl _ _) _
  have bM := Boxed.new w1 62 (.map (some w.heap.size))
  have hsW : (w1.alloc (Obj.cells #[Value.map (some w.heap.size)] 62)).heap.size = w1.heap.size + 1 := by simp
  generalize (w1.alloc (Obj.cells #[Value.map (some w.heap.size)] 62)) = w2 at *
  have hc2 := HC1.out.below hbW hm1
  obtain ⟨D, hown, hkey⟩ := keysL_cnt hc2
  have hlen3 : ∀ ys, KeysL D ys → ys.length = 3 := fun ys hy => by
    obtain ⟨k1, k2⟩ := hkey ys hy
    have h := (three_keys k1 (fun x => (k2 x).trans (HL.out x))).length_eq
    simpa using h
  have HS := Lib.hid (sorted_three w1.heap.size w.heap.size L.length D w2 (by omega) bM.cell hown (by have h1 := hown.size_le; have h2 := HLl.out; omega) hlen3)
  have HKY := Lib.hid hkey
  have HC2 := Lib.hid hc2
  have HB2 := Lib.hid (HB1.out.trans (hbW.mono hs1))
  clear bM hown hkey hc2 hbW hlen3
  refine HS.out.mono ?_
  rintro e w3 ⟨g, cap, ys, z, rfl, hky, hcap, hg, hz, hp, ho, hb3⟩
  have hzz : z 0 = 7 ∧ z 1 = 8 ∧ z 2 = 9 := by
    obtain ⟨k1, k2⟩ := HKY.out ys hky
    exact ord_three ho (hp.trans (three_keys k1 (fun x => (k2 x).trans (HL.out x))))
  have hwf : ∀ i, i < 3 → (Lit.int .u64 (z i)).wf = true := fun i hi => by
    obtain ⟨e0, e1, e2⟩ := hzz
    match i, hi with
    | 0, _ => rw [e0]; decide
    | 1, _ => rw [e1]; decide
    | 2, _ => rw [e2]; decide
  have HZ := Lib.hid hz
  have HZZ := Lib.hid hzz
  have HWF := Lib.hid hwf
  have hs3 := hb3.size
  have hgl := hz.1
  have HC3 := Lib.hid (HC2.out.below hb3 (by omega))
  have HB3 := Lib.hid (HB2.out.trans (hb3.mono (by omega)))
  clear hky hz hp ho hb3 hzz hwf
  go_wp2_with (fail)
  go_loopw [4, 13] (fun vo vi wr => ∃ i : Nat, i ≤ 3 ∧ vi = .int .i64 i ∧ wr.ownsRow w3.heap.size 43 2 vo i (cpair z L i) ∧ Below w3.heap.size w3 wr) (fun _ i _ => 3 - (intOf i).toNat)
  case atStart => exact ⟨0, by omega, rfl, ⟨rfl, .inl ⟨rfl, rfl⟩⟩, Below.refl _ _⟩
  case round =>
    obtain ⟨i, hin, rfl, hown, hbl⟩ := hrel
    have HOWN := Lib.hid hown
    have HBL := Lib.hid hbl
    have hws := hbl.size
    have hcn := HC3.out.below hbl (by omega)
    have HCN := Lib.hid hcn
    by_cases hi' : i < 3
    · have hi0 : (0 : Int) ≤ (i : Int) := by omega
      have hi1 : (i : Int) < 3 := by omega
      obtain ⟨a0, _⟩ := HZ.out.2 i hi'
      have a0 := (hbl.cell (p := ⟨g, i, none⟩) hgl).trans a0
      have hgw : g < wr.heap.size := by omega
      have HW := Lib.hid (HWF.out i hi')
      have HSU := Lib.hid (cpair_succ z L i)
      clear hown hbl hcn
      go_wp2_with ((at_lookup; refine Hid.out ?_))
      refine Lib.hid ?_
      refine wpList_look_cnt _ (by rfl) _ _ rfl w.heap.size L HCN.out rfl (z i) HW.out rfl ?_
      go_wp2_with ((at_builtin; refine Hid.out ?_))
      refine Lib.hid ?_
      have hbA : Below wr.heap.size wr (wr.alloc (Obj.cells #[Value.int .u64 (z i), Value.int .i64 (L.count (z i) : Nat)] 43)) := bl_alloc (Below.refl _ _) _
      refine wpList_append_own _ rfl _ _ 39 rfl w3.heap.size 43 i0 (.agg #[.int .u64 0, .int .i64 0]) 2 16 u39 hi hz0 hz1 hz2 rfl (by decide) _ i (cpair z L i) rfl (own_new HOWN.out hbA) ⟨wr.heap.size, 0, none⟩ 1 1 [.int .u64 (z i), .int .i64 (L.count (z i) : Nat)] rfl rfl ?c1 (by simp [Value.oneCell']) (by unfold maxLen; omega) (by omega) (by simp; omega) ?_
      case c1 =>
        intro j u hj
        match j, hj with
        | 0, hj => simp at hj; subst hj; simp [Addr.add]
        | 1, hj => simp at hj; subst hj; simp [Addr.add]
      intro v' w4 hown4 hgrow4 _
      have hb4 : Below w3.heap.size w3 w4 := (HBL.out.trans (hbA.mono hws)).grown hgrow4 (by simp; omega) (own_ge HOWN.out)
      have HO4 : Hid (w4.ownsRow w3.heap.size 43 2 v' (i + 1) (cpair z L (i + 1))) := Lib.hid (by rw [HSU.out]; exact hown4)
      have HB4 := Lib.hid hb4
      clear hown4 hgrow4 hb4 hbA
      go_wp2_with (fail)
      go_roundw
      case rel => exact ⟨i + 1, by omega, by first | rfl | (push_cast; rfl) | go_num, HO4.out, HB4.out⟩
      case measure => simp [intOf]; omega
    · have hine : i = 3 := by omega
      subst hine
      have HO : Hid (wr.ownsRow w.heap.size 43 2 u4 3 (cpair z L 3)) := Lib.hid (own_le HOWN.out (by omega))
      clear hown hbl hcn
      go_wp2_with (fail)
      go_ret
      exact ⟨_, z, rfl, HZZ.out, HO.out, HB3.out.trans (HBL.out.mono (by omega))⟩
end Go.Proofs.Ytmalcekbhnkfgaa
