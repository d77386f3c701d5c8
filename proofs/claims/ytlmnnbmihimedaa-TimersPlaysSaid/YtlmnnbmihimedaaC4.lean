/- The contract of Put, where it may be put. Conditions: as each theorem states them. -/
import Derived.Test.YtlmnnbmihimedaaC3
namespace Go.Proofs.Ytlmnnbmihimedaa
open Go.RowKit Go.Maps
set_option linter.unusedVariables false
set_option linter.unusedSimpArgs false

theorem step_mapUpdate {ops : Array Oper} {o : Oper} {a : Act} {K : Act → World → Prop} {Q : Exit → Act → World → Prop} {E : Prop} (w w' : World) (hgd : o.guard = none) (m x v : Operand) (t : TypeId) (ho : o.op = .mapUpdate t m x v) (mv kv vv : Value) (hm : a.eval m = mv) (hx : a.eval x = kv) (hv : a.eval v = vv)
    (hrun : (Instr.mapUpdate t mv kv vv).run Try.prog w = .ok () w') (h : K (a.put o.dst undef) w') : if Region.wanted o (yielded ops a.tmps) = true then Oper.wp Try.prog o a w K Q else E := by
  have hw : Region.wanted o (yielded ops a.tmps) = true := by simp [Region.wanted, hgd]
  rw [if_pos hw]
  unfold Oper.wp
  simp [execOp, ho, hm, hx, hv, hrun, Result.andThen]
  exact h
set_option maxRecDepth 100000 in
set_option maxHeartbeats 1000000 in
theorem put_long (B q m : Nat) (v : Value) (bs : List Nat) (tm : Nat → Tm) (pl : Nat → Int) (x : Tm) (w : World) (h : QAt w B q m v bs tm pl) (hx : chkT x = 0) (hb : ∀ b ∈ bs, tm b ≠ x) (hfull : 1024 ≤ bs.length) : Calls Try.prog 24 #[.pointer (some ⟨q, 0, none⟩), tmV x] w fun e w' => e = .returned (.int .i64 3) ∧ Below w.heap.size w w' := by
  have hl := h.heap.lt
  have h3 := h.mp
  have hC := fun w => check_any x w
  have hN := none_any q m (w.alloc (.cells #[.int .i64 x.t, .string x.k, .string x.s] 23)) (((bl_alloc (Below.refl _ _) _).cell (p := ⟨q, 3, none⟩) hl).trans h3)
  have HL : Hid (∀ w', Below w.heap.size w w' → (Instr.lookup 56 (.map (some m)) (tmV x) false).run Try.prog w' = .ok (.pointer none) w') := Lib.hid fun w' hw' => (h.below hw').map.look (okT_chk hx) _ (.inr ⟨hb, rfl⟩)
  have HN : Hid (∀ w', Below w.heap.size w w' → ∀ ty, (Builtin.len_ #[56] ty #[.map (some m)]).run Try.prog w' = .ok (.int .i64 bs.length) w') := Lib.hid fun w' hw' ty => (h.below hw').map.len ty
  have hfi : (1024 : Int) ≤ (bs.length : Int) := by omega
  have HC := Lib.hid hC
  clear h hC
  rw [hx] at HC
  clear hx hb
  unfold tmV at *
  obtain ⟨t, k, s⟩ := x
  dsimp only at *
  go_enter Try.func24, Try.ntmps24
  go_wp2_with (fail)
  refine hN.mono ?_
  rintro e w1 ⟨rfl, rfl⟩
  go_wp2_with (fail)
  refine (HC.out _).mono ?_
  rintro e w1 ⟨rfl, hb1⟩
  have hk1 : Below w.heap.size w w1 := bl_then (bl_alloc (Below.refl _ _) _) hb1
  have hlk : ∀ X : Ext w1, (Instr.lookup 56 (.map (some m)) (.agg #[.int .i64 t, .string k, .string s]) false).run Try.prog X.val = .ok (.pointer none) X.val := fun X => HL.out X.val (hk1.trans (X.bl.mono hk1.size))
  have hs1 := hb1.size
  simp at hs1
  have c0 : w1.cell? ⟨w.heap.size, 0, none⟩ = some (.int .i64 t) := (hb1.cell (p := ⟨w.heap.size, 0, none⟩) (by simp)).trans (by go_keep)
  have c1 : w1.cell? ⟨w.heap.size, 1, none⟩ = some (.string k) := (hb1.cell (p := ⟨w.heap.size, 1, none⟩) (by simp)).trans (by go_keep)
  have c2 : w1.cell? ⟨w.heap.size, 2, none⟩ = some (.string s) := (hb1.cell (p := ⟨w.heap.size, 2, none⟩) (by simp)).trans (by go_keep)
  have c3 : w1.cell? ⟨q, 3, none⟩ = some (.map (some m)) := (hk1.cell (p := ⟨q, 3, none⟩) hl).trans h3
  have l1 : w.heap.size < w1.heap.size := by omega
  have l2 : q < w1.heap.size := by omega
  have e0 := ext_cell c0
  have e1 := ext_cell c1
  have e2 := ext_cell c2
  have e3 := ext_cell c3
  go_wp2_with (fail)
  refine wp_region_ext (by kernel_rfl) (by kernel_rfl) ?_
  repeat (go_big_quiet_step (fail))
  refine wpQuiet_nil ?_
  rintro w2 ⟨⟨_, hb2⟩, rfl⟩
  have hk2 : Below w.heap.size w w2 := bl_then hk1 hb2
  have hlen := HN.out w2 hk2 3
  have l3 : q < w2.heap.size := by have := hb2.size; omega
  have d3 : w2.cell? ⟨q, 3, none⟩ = some (.map (some m)) := (hk2.cell (p := ⟨q, 3, none⟩) hl).trans h3
  go_wp2_with (fail)
  go_ret
  exact ⟨rfl, hk2⟩
end Go.Proofs.Ytlmnnbmihimedaa
