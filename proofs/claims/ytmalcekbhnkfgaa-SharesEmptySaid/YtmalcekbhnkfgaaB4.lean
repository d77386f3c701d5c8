/- Contracts of slices.AppendSeq, Collect and Sorted over a map's keys. Conditions: as each theorem states them. -/
import Derived.Test.YtmalcekbhnkfgaaB3
namespace Go.Proofs.Ytmalcekbhnkfgaa
open Go.RowKit Go.Maps Go.Shelf
set_option linter.unusedVariables false
set_option linter.unusedSimpArgs false
attribute [local go_sem] Oper.semAt_some

/-- Those are a map's keys. -/
def KeysL (D0 : DataW Unit) (ys : List U64) : Prop := ys.Nodup ∧ ∀ x : U64, x ∈ ys ↔ has D0 (.int .u64 x.1) = true
def ucells (l : List U64) : List Value := l.map (fun x => .int .u64 x.1)
theorem keys_stops (F : Fence) (n : Nat) (h48 : F.fn 48) (hro : F.round = none) (hn : 1 ≤ n) (Bm b nn : Nat) (D0 : DataW Unit) (w : World) (hBm : Bm < w.heap.size) (hm : w.cell? ⟨Bm, 0, none⟩ = some (.map (some b))) (hown : w.ownsMap Try.prog 23 (plainElem Try.prog 3) b nn D0) :
    SeqStopsK F n Try.prog 48 #[.pointer (some ⟨Bm, 0, none⟩)] encU KeepsWalks (KeysL D0) (fun _ => True) (size D0) w := fun l J Jx W hW hJ _ hY h0 => by
  have hown' : W.ownsMap Try.prog 23 (plainElem Try.prog 3) b nn D0 := by
    have hbl := hown.lt
    obtain ⟨es, clock, hb, Ft, hs, hD⟩ := hown
    exact ⟨es, clock, (hW.block b hbl).trans hb, Ft, hs, hD⟩
  exact keys1_in F n h48 hro hn l Bm b nn D0 J Jx W hJ hY ((hW.cell (p := ⟨Bm, 0, none⟩) hBm).trans hm) hown' h0
set_option maxRecDepth 100000 in
set_option maxHeartbeats 4000000 in
theorem appendseq_any (Bm b nn : Nat) (D0 : DataW Unit) (w : World) (hBm : Bm < w.heap.size) (hm : w.cell? ⟨Bm, 0, none⟩ = some (.map (some b))) (hown : w.ownsMap Try.prog 23 (plainElem Try.prog 3) b nn D0) (hsz : size D0 ≤ 1000000) :
    Calls Try.prog 49 #[.slice none 0 0, .func (.func 48) #[] #[.pointer (some ⟨Bm, 0, none⟩)]] w fun e w' => ∃ (v : Value) (ys : List U64), e = .returned v ∧ KeysL D0 ys ∧ w'.ownsRow w.heap.size 23 1 v ys.length (ucells ys) ∧ Below w.heap.size w w' := by
  obtain ⟨i0, hi, hz0, hz1, hz2⟩ := info_parts i23
  have HM := Lib.hid hm
  have HOWN := Lib.hid hown
  clear hm hown
  refine (callsIn_wide (n := 10)).1 ?_
  refine callsIn_of_wp_marks Try.func49 rfl trivial ?_ rfl
  refine wpIn_wide.2 ?_
  simp only [Try.ntmps49, List.size_toArray, List.length_cons, List.length_nil, Nat.reduceAdd, Nat.reduceSub, Array.replicate_succ, Array.replicate_zero, List.push_toArray, List.append_toArray, List.nil_append, List.cons_append]
  go_wp2_with (fail)
  have bB := Boxed.new w 38 (.slice none 0 0)
  have hbW : Below w.heap.size w (w.alloc (Obj.cells #[Value.slice none 0 0] 38)) := bl_alloc (Below.refl _ _) _
  have hsW : (w.alloc (Obj.cells #[Value.slice none 0 0] 38)).heap.size = w.heap.size + 1 := by simp
  generalize (w.alloc (Obj.cells #[Value.slice none 0 0] 38)) = WL at *
  have hmL := (hbW.cell (p := ⟨Bm, 0, none⟩) hBm).trans HM.out
  have hownL : WL.ownsMap Try.prog 23 (plainElem Try.prog 3) b nn D0 := by
    have hbl := HOWN.out.lt
    obtain ⟨es, clock, hb, Ft, hs, hD⟩ := HOWN.out
    exact ⟨es, clock, (hbW.block b hbl).trans hb, Ft, hs, hD⟩
  refine (wpIn_wide (n := 10)).1 ?_
  refine wpIn_rangeFunc_ownH rfl (by omega) (gf := 48) (lb := #[.pointer (some ⟨Bm, 0, none⟩)]) rfl trivial (enters_of Try.func48 (by kernel_rfl) rfl)
    (keys_stops Fence.wide (10 - 1) trivial rfl (by omega) Bm b nn D0 WL (by omega) hmL hownL) walksK_t walksK_b (Below.refl _ _) (fun _ => rfl)
    (fun pre W => (∃ v, Boxed W w.heap.size 38 v ∧ W.ownsRow w.heap.size 23 1 v (List.length (α := U64) pre) (ucells pre) ∧ True) ∧ Below w.heap.size w W)
    (fun _ _ _ => False)
    (OwnFrom.and (Own.from (holdsRow_own w.heap.size w.heap.size 38 23 1 (fun pre => List.length (α := U64) pre) (fun pre => ucells pre) (fun _ _ => True)) _) (ownFrom_below (Nat.le_refl _) (by omega)))
    (fun _ _ _ _ _ hs _ _ => hs)
    ⟨⟨_, bB, ⟨rfl, .inl ⟨rfl, rfl⟩⟩, trivial⟩, hbW⟩
    (fun x a' W => a' = { tmps := #[.slice none 0 0, .func (.func 48) #[] #[.pointer (some ⟨Bm, 0, none⟩)], .pointer (some ⟨w.heap.size, 0, none⟩), undef, .slice none 0 0, .int .u64 x.1, .func (.func 48) #[] #[.pointer (some ⟨Bm, 0, none⟩)], .int .u64 x.1, undef, undef, undef, undef, undef], defers := [] })
    (fun _ _ _ _ _ _ hs _ _ => hs)
    ?assign ?body ?done ?stop
  case assign =>
    intro lp pre x W K hI hK
    simp only [encU]
    gi_wp2
    exact hK _ _ (KeepsFrom.refl _ _) (KeepsWalks.refl _) hI rfl
  case body =>
    rintro lp pre x a' W hlp ⟨r, hr⟩ ⟨⟨v, hv, hrow, _⟩, hB⟩ rfl hpl
    have hvc := hv.cell
    have hvf := hv.frozen
    have hBs := hB.size
    have HV := Lib.hid hv
    have HR := Lib.hid hrow
    have HB := Lib.hid hB
    clear hr hB
    obtain ⟨xv, xw⟩ := x
    dsimp only at *
    gi_wp2_with (first
      | (gi_at_builtin; refine wpListIn_append_own _ rfl _ _ 38 rfl w.heap.size 23 i0 (.int .u64 0) 1 8 u38 hi hz0 hz1 hz2 rfl (by decide) _ _ _ rfl (hrow.alloc _) ⟨W.heap.size, 0, none⟩ 1 1 [.int .u64 xv] rfl rfl (cell_one_new _ _ _) (by simp [Value.oneCell']) (by unfold maxLen; omega) (by omega) (by simp; omega) ?_; intro v' w1 hown' hgrow _; obtain ⟨g', cap', rfl⟩ := ownsRow_succ hown'; obtain ⟨hv1, hv2, hr2, hk2, hb2⟩ := hv.appended (by decide) hrow HB.out.size (Nat.le_refl _) hown' hgrow; have hc1 := hv1.cell; have hf1 := hv1.frozen)
      | gi_in)
    refine ⟨hk2.from _, hk2.walks, ⟨⟨_, hv2, ?_, trivial⟩, HB.out.trans hb2⟩⟩
    simpa [ucells] using hr2
  case done =>
    rintro D ys W hD hS ⟨⟨v, hv, hrow, _⟩, hB⟩ hK
    have hvc := hv.cell
    have HR := Lib.hid hrow
    have HB := Lib.hid hB
    have HK := Lib.hid hK
    have HS := Lib.hid hS
    clear hrow hB hK hS
    go_wp2_with (fail)
    refine ⟨by simp, .inl ⟨_, _, rfl, run_takeDeferred HK.out, ?_⟩⟩
    exact ⟨v, by simp [results, Try.f49, go_sem], v, ys, rfl, HS.out, ownsRow_putObj HR.out _ HK.out rfl, HB.out.trans (belowK_b (w := WL) (by omega) W D _ _ hD HK.out rfl rfl)⟩
  case stop =>
    rintro D cd pre W _ _ h _
    exact h.elim
end Go.Proofs.Ytmalcekbhnkfgaa
