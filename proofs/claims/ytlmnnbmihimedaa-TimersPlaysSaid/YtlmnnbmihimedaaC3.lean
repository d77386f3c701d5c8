/- The contract of Put. Conditions: as each theorem states them. -/
import Derived.Test.YtlmnnbmihimedaaC2
namespace Go.Proofs.Ytlmnnbmihimedaa
open Go.RowKit Go.Maps
set_option linter.unusedVariables false
set_option linter.unusedSimpArgs false

/-- The blocks of a queue. -/
def QS (q m : Nat) (v : Value) (bs : List Nat) (b : Nat) : Prop := b = q ∨ b = m ∨ b ∈ bs ∨ v.ownBlock = some b
theorem QAt.lt {w : World} {B q m : Nat} {v : Value} {bs : List Nat} {tm : Nat → Tm} {pl : Nat → Int} (h : QAt w B q m v bs tm pl) {b : Nat} (hb : QS q m v bs b) : b < w.heap.size := by
  rcases hb with rfl | rfl | hb | hb
  · exact h.heap.lt
  · exact h.map.lt
  · exact (h.heap.item b hb).lt
  · rcases h.heap.row.2 with ⟨rfl, _⟩ | ⟨g, c, cur, rfl, _, hg, _⟩
    · simp [Value.ownBlock] at hb
    · simp [Value.ownBlock] at hb
      subst hb
      exact (Array.getElem?_eq_some_iff.1 hg).1
theorem QAt.kw {w w' : World} {S : Nat → Prop} {B q m : Nat} {v : Value} {bs : List Nat} {tm : Nat → Tm} {pl : Nat → Int} (h : QAt w B q m v bs tm pl) (k : Kw S w w') (hS : ∀ b, QS q m v bs b → ¬ S b) : QAt w' B q m v bs tm pl :=
  ⟨h.heap.kw k (hS q (.inl rfl)) (fun b hb => hS b (.inr (.inr (.inl hb)))) (fun g hg => hS g (.inr (.inr (.inr hg)))), (k.cell h.heap.lt (hS q (.inl rfl))).trans h.mp, h.map.kw k (hS m (.inr (.inl rfl))), h.ge⟩
theorem QAt.below {w w' : World} {B q m : Nat} {v : Value} {bs : List Nat} {tm : Nat → Tm} {pl : Nat → Int} (h : QAt w B q m v bs tm pl) (k : Below w.heap.size w w') : QAt w' B q m v bs tm pl :=
  h.kw (S := fun _ => False) (Kw.ofBelow k) (fun _ _ h => h)
set_option maxRecDepth 100000 in
set_option maxHeartbeats 1000000 in
theorem put_arg (B q m : Nat) (v : Value) (bs : List Nat) (tm : Nat → Tm) (pl : Nat → Int) (x : Tm) (w : World) (h : QAt w B q m v bs tm pl) (hx : chkT x ≠ 0) : Calls Try.prog 24 #[.pointer (some ⟨q, 0, none⟩), tmV x] w fun e w' => e = .returned (.int .i64 2) ∧ Below w.heap.size w w' := by
  have hl := h.heap.lt
  have h3 := h.mp
  have hC := fun w => check_any x w
  have hN := none_any q m (w.alloc (.cells #[.int .i64 x.t, .string x.k, .string x.s] 23)) (((bl_alloc (Below.refl _ _) _).cell (p := ⟨q, 3, none⟩) hl).trans h3)
  have HC := Lib.hid hC
  clear h hC
  have hr : chkT x = 2 := by
    unfold chkT at hx ⊢
    split
    · rfl
    · rename_i h
      rw [if_neg h] at hx
      exact absurd rfl hx
  rw [hr] at HC
  unfold tmV
  obtain ⟨t, k, s⟩ := x
  dsimp only at *
  go_enter Try.func24, Try.ntmps24
  go_wp2_with (fail)
  refine hN.mono ?_
  rintro e w1 ⟨rfl, rfl⟩
  go_wp2_with (fail)
  refine (HC.out _).mono ?_
  rintro e w1 ⟨rfl, hb1⟩
  go_wp2_with (fail)
  go_ret
  exact ⟨rfl, bl_then (bl_alloc (Below.refl _ _) _) hb1⟩
set_option maxRecDepth 100000 in
set_option maxHeartbeats 1000000 in
theorem put_there (B q m : Nat) (v : Value) (bs : List Nat) (tm : Nat → Tm) (pl : Nat → Int) (x : Tm) (w : World) (h : QAt w B q m v bs tm pl) (hx : chkT x = 0) (hb : ∃ b ∈ bs, tm b = x) : Calls Try.prog 24 #[.pointer (some ⟨q, 0, none⟩), tmV x] w fun e w' => e = .returned (.int .i64 5) ∧ Below w.heap.size w w' := by
  have hl := h.heap.lt
  have h3 := h.mp
  have hC := fun w => check_any x w
  have hN := none_any q m (w.alloc (.cells #[.int .i64 x.t, .string x.k, .string x.s] 23)) (((bl_alloc (Below.refl _ _) _).cell (p := ⟨q, 3, none⟩) hl).trans h3)
  obtain ⟨b, hb, htb⟩ := hb
  have HL : Hid (∀ w', Below w.heap.size w w' → (Instr.lookup 56 (.map (some m)) (tmV x) false).run Try.prog w' = .ok (ptrV b) w') := Lib.hid fun w' hw' => (h.below hw').map.look (okT_chk hx) _ (.inl ⟨b, hb, htb, rfl⟩)
  have HC := Lib.hid hC
  clear h hC
  rw [hx] at HC
  clear hx htb
  unfold tmV at *
  obtain ⟨t, k, s⟩ := x
  dsimp only at *
  go_enter Try.func24, Try.ntmps24
  go_wp2_with (fail)
  refine hN.mono ?_
  rintro e w1 ⟨rfl, rfl⟩
  go_wp2_with (fail)
  refine (HC.out _).mono ?_
  rintro e w1 ⟨rfl, hb1⟩
  have hk1 : Below w.heap.size w w1 := bl_then (bl_alloc (Below.refl _ _) _) hb1
  have hlk : ∀ X : Ext w1, (Instr.lookup 56 (.map (some m)) (.agg #[.int .i64 t, .string k, .string s]) false).run Try.prog X.val = .ok (.pointer (some ⟨b, 0, none⟩)) X.val := fun X => HL.out X.val (hk1.trans (X.bl.mono hk1.size))
  have hs1 := hb1.size
  simp at hs1
  have c0 : w1.cell? ⟨w.heap.size, 0, none⟩ = some (.int .i64 t) := (hb1.cell (p := ⟨w.heap.size, 0, none⟩) (by simp)).trans (by go_keep)
  have c1 : w1.cell? ⟨w.heap.size, 1, none⟩ = some (.string k) := (hb1.cell (p := ⟨w.heap.size, 1, none⟩) (by simp)).trans (by go_keep)
  have c2 : w1.cell? ⟨w.heap.size, 2, none⟩ = some (.string s) := (hb1.cell (p := ⟨w.heap.size, 2, none⟩) (by simp)).trans (by go_keep)
  have c3 : w1.cell? ⟨q, 3, none⟩ = some (.map (some m)) := (hk1.cell (p := ⟨q, 3, none⟩) hl).trans h3
  have l1 : w.heap.size < w1.heap.size := by omega
  have l2 : q < w1.heap.size := by omega
  have e0 := ext_cell c0
  have e1 := ext_cell c1
  have e2 := ext_cell c2
  have e3 := ext_cell c3
  go_wp2_with (fail)
  refine wp_region_ext (by kernel_rfl) (by kernel_rfl) ?_
  repeat (go_big_quiet_step (fail))
  refine wpQuiet_nil ?_
  rintro w2 ⟨⟨_, hb2⟩, rfl⟩
  go_wp2_with (fail)
  go_ret
  exact ⟨rfl, bl_then hk1 hb2⟩
end Go.Proofs.Ytlmnnbmihimedaa
