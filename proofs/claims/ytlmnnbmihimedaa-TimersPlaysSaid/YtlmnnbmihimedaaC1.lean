/- The queue; New, none, Len, Next. Conditions: as each theorem states them. -/
import Derived.Test.YtlmnnbmihimedaaC0
namespace Go.Proofs.Ytlmnnbmihimedaa
open Go.RowKit Go.Maps
set_option linter.unusedVariables false
set_option linter.unusedSimpArgs false

/-- Block q is a queue: its heap in the row v, its map in block m; all of it lies in blocks from B on. -/
structure QAt (w : World) (B q m : Nat) (v : Value) (bs : List Nat) (tm : Nat → Tm) (pl : Nat → Int) : Prop where
  heap : Heap w B q v bs tm pl
  mp : w.cell? ⟨q, 3, none⟩ = some (.map (some m))
  map : MapAt w m bs tm
  ge : B ≤ q ∧ B ≤ m ∧ ∀ b ∈ bs, B ≤ b
theorem MapAt.noCell {w : World} {m : Nat} {L : List Nat} {tm : Nat → Tm} (h : MapAt w m L tm) (i : Nat) : w.cell? ⟨m, i, none⟩ = none := by
  obtain ⟨_, D, ⟨es, clock, hb, _⟩, _⟩ := h
  simp [World.cell?, hb]
theorem QAt.apart {w : World} {B q m : Nat} {v : Value} {bs : List Nat} {tm : Nat → Tm} {pl : Nat → Int} (h : QAt w B q m v bs tm pl) : q ≠ m ∧ (∀ b ∈ bs, b ≠ m) ∧ ∀ g, v.ownBlock = some g → g ≠ m := by
  refine ⟨?_, ?_, ?_⟩
  · rintro rfl
    have := h.map.noCell 3
    rw [h.mp] at this
    cases this
  · rintro b hb rfl
    have := h.map.noCell 0
    rw [(h.heap.item b hb).c0] at this
    cases this
  · rintro g hg rfl
    obtain ⟨_, D, ⟨es, clock, hm, _⟩, _⟩ := h.map
    rcases h.heap.row.2 with ⟨rfl, _⟩ | ⟨g', c, cur, rfl, _, hgc, _⟩
    · simp [Value.ownBlock] at hg
    · simp [Value.ownBlock] at hg
      subst hg
      rw [hm] at hgc
      cases hgc
theorem eqm_none (w : World) : (binOp .eql 56 (.map none) (.map none)).run Try.prog w = .ok (.bool true) w := by kernel_rfl
theorem eqm_some (m : Nat) (w : World) : (binOp .eql 56 (.map (some m)) (.map none)).run Try.prog w = .ok (.bool false) w := by kernel_rfl
theorem none_nil (w : World) : Calls Try.prog 31 #[.pointer none] w fun e w' => e = .returned (.bool true) ∧ w = w' := by
  go_enter Try.func31, Try.ntmps31
  go_wp2_with (fail)
  go_ret
  exact ⟨rfl, rfl⟩
theorem none_zero (q : Nat) (w : World) (h : w.cell? ⟨q, 3, none⟩ = some (.map none)) : Calls Try.prog 31 #[.pointer (some ⟨q, 0, none⟩)] w fun e w' => e = .returned (.bool true) ∧ w = w' := by
  have hl := World.block_lt_of_cell? w _ h
  dsimp only at hl
  have heq := eqm_none w
  go_enter Try.func31, Try.ntmps31
  go_wp2_with (fail)
  go_ret
  exact ⟨rfl, rfl⟩
theorem none_any (q m : Nat) (w : World) (h : w.cell? ⟨q, 3, none⟩ = some (.map (some m))) : Calls Try.prog 31 #[.pointer (some ⟨q, 0, none⟩)] w fun e w' => e = .returned (.bool false) ∧ w = w' := by
  have hl := World.block_lt_of_cell? w _ h
  dsimp only at hl
  have heq := eqm_some m w
  go_enter Try.func31, Try.ntmps31
  go_wp2_with (fail)
  go_ret
  exact ⟨rfl, rfl⟩
theorem len_any (B q m : Nat) (v : Value) (bs : List Nat) (tm : Nat → Tm) (pl : Nat → Int) (w : World) (h : QAt w B q m v bs tm pl) : Calls Try.prog 20 #[.pointer (some ⟨q, 0, none⟩)] w fun e w' => e = .returned (.int .i64 bs.length) ∧ w = w' := by
  have hl := h.heap.lt
  have h3 := h.mp
  have hlen := h.map.len 3
  have H := Lib.hid h
  clear h
  go_enter Try.func20, Try.ntmps20
  go_wp2_with (fail)
  refine (none_any q m w h3).mono ?_
  rintro e w1 ⟨rfl, rfl⟩
  go_wp2_with (fail)
  go_ret
  exact ⟨rfl, rfl⟩
theorem len_nil (w : World) : Calls Try.prog 20 #[.pointer none] w fun e w' => e = .returned (.int .i64 0) ∧ w = w' := by
  go_enter Try.func20, Try.ntmps20
  go_wp2_with (fail)
  refine (none_nil w).mono ?_
  rintro e w1 ⟨rfl, rfl⟩
  go_wp2_with (fail)
  go_ret
  exact ⟨rfl, rfl⟩
theorem len_zero (q : Nat) (w : World) (h : w.cell? ⟨q, 3, none⟩ = some (.map none)) : Calls Try.prog 20 #[.pointer (some ⟨q, 0, none⟩)] w fun e w' => e = .returned (.int .i64 0) ∧ w = w' := by
  go_enter Try.func20, Try.ntmps20
  go_wp2_with (fail)
  refine (none_zero q w h).mono ?_
  rintro e w1 ⟨rfl, rfl⟩
  go_wp2_with (fail)
  go_ret
  exact ⟨rfl, rfl⟩
def zeroT : Tm := ⟨0, ByteArray.empty, ByteArray.empty⟩
def newQ (w : World) : World := (w.alloc (.map #[] 0)).alloc (.cells #[.slice none 0 0, .func (.func 34) #[] #[], .func (.func 35) #[] #[], .map (some w.heap.size)] 58)
theorem new_any (w : World) : Calls Try.prog 22 #[] w fun e w' => e = .returned (.pointer (some ⟨w.heap.size + 1, 0, none⟩)) ∧ w' = newQ w := by
  have hmm := @run_makeMap Try.prog
  go_enter Try.func22, Try.ntmps22
  go_wp2_with (fail)
  go_ret
  exact ⟨rfl, rfl⟩
theorem newQ_at (w : World) (tm : Nat → Tm) (pl : Nat → Int) : QAt (newQ w) w.heap.size (w.heap.size + 1) w.heap.size (.slice none 0 0) [] tm pl := by
  have hk : Kw (fun _ => False) (w.alloc (.map #[] 0)) (newQ w) := Kw.ofBelow (bl_alloc (Below.refl _ _) _)
  have hc : ∀ i v, (#[Value.slice none 0 0, .func (.func 34) #[] #[], .func (.func 35) #[] #[], .map (some w.heap.size)] : Array Value)[i]? = some v → (newQ w).cell? ⟨w.heap.size + 1, i, none⟩ = some v := fun i v hv => by
    have : (newQ w).heap[w.heap.size + 1]? = some (.cells #[.slice none 0 0, .func (.func 34) #[] #[], .func (.func 35) #[] #[], .map (some w.heap.size)] 58) := by
      have hs : (w.alloc (.map #[] 0)).heap.size = w.heap.size + 1 := by simp
      rw [← hs]
      exact Array.getElem?_push_size
    simp only [World.cell?, this]
    simpa using hv
  have hf : (newQ w).frozen? ⟨w.heap.size + 1, 0, none⟩ = false := by
    have : (newQ w).heap[w.heap.size + 1]? = some (.cells #[.slice none 0 0, .func (.func 34) #[] #[], .func (.func 35) #[] #[], .map (some w.heap.size)] 58) := by
      have hs : (w.alloc (.map #[] 0)).heap.size = w.heap.size + 1 := by simp
      rw [← hs]
      exact Array.getElem?_push_size
    simp [World.frozen?, this]
  refine ⟨⟨hc 0 _ rfl, hc 1 _ rfl, hc 2 _ rfl, by simp [newQ], hf, ⟨rfl, .inl ⟨rfl, rfl⟩⟩, by simp, by simp [Value.ownBlock], by simp⟩, hc 3 _ rfl, (MapAt.made w tm).kw hk (fun h => h), by omega, by omega, by simp⟩
end Go.Proofs.Ytlmnnbmihimedaa
