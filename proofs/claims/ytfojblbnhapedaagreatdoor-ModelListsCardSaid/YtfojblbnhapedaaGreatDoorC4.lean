/- Contracts of marks.tell, See, Tell, Idle. Conditions: as each theorem states them. -/
import Derived.Test.YtfojblbnhapedaaGreatDoorC3
namespace Go.Proofs.YtfojblbnhapedaaGreatDoor
open Go.RowKit
set_option linter.unusedVariables false
set_option linter.unusedSimpArgs false

theorem lstep_le {B : Int} (hB : 0 ≤ B) : ∀ (l : List Src) (a : Int × Bool), a.1 ≤ B → (∀ p ∈ l, p.1 ≤ B) → (l.foldl lstep a).1 ≤ B
  | [], a, h, _ => h
  | s :: l, a, h, hl => by
    rw [List.foldl_cons]
    refine lstep_le hB l _ ?_ (fun p hp => hl p (List.mem_cons_of_mem _ hp))
    unfold lstep
    split
    · exact hl s (List.mem_cons_self ..)
    · exact h
theorem OkM.change {m : Mk} (h : OkM m) (k : Nat) {t : Src} (h1 : -1127000000000000 ≤ t.1) (h2 : t.1 ≤ 1125899906842624) : OkM (m.change k t) := by
  unfold Mk.change
  split
  · exact h
  · have hs := h.set k h1 h2
    refine ⟨h.n1, h.n2, hs.len, h.b1, h.b2, hs.ms, ?_, ?_⟩
    · dsimp only
      have := h.now1
      split <;> omega
    · dsimp only
      have h3 := h.now2
      have h4 := lstep_le (B := 1125899906842624) (by decide) ((m.all.set k t).take m.n) (0, false) (by decide) (fun p hp => (hs.ms p (List.mem_of_mem_take hp)).2)
      unfold leastF
      split <;> omega
/-- A source will report none at upto or before. -/
def Mk.tell (m : Mk) (k : Nat) (upto : Int) : Mk := m.change k (max (m.all.getD k (0, false)).1 upto, false)
theorem getD_at {m : Mk} (ok : OkM m) {k : Nat} (hk : k < m.n) : ∃ hka : k < m.all.length, m.all.getD k (0, false) = m.all[k] := by
  have hka : k < m.all.length := by have := ok.len; have := ok.n2; omega
  exact ⟨hka, by rw [List.getD_eq_getElem?_getD, List.getElem?_eq_getElem hka]; rfl⟩
theorem OkM.tell {m : Mk} (h : OkM m) {k : Nat} (hk : k < m.n) {u : Int} (h2 : u ≤ 1125899906842624) : OkM (m.tell k u) := by
  obtain ⟨hka, e⟩ := getD_at h hk
  have hm := h.ms m.all[k] (List.getElem_mem hka)
  unfold Mk.tell
  rw [e]
  exact h.change k (t := (max (m.all[k]).1 u, false)) (by dsimp only; omega) (by dsimp only; omega)
set_option maxRecDepth 100000 in
set_option maxHeartbeats 4000000 in
theorem tell_any (b k : Nat) (u : Int) (m : Mk) (w : World) (h : MkAt w b m) (ok : OkM m) (hk : k < m.n) (h2 : u ≤ 1125899906842624) (h1 : -1127000000000000 ≤ u) :
    Calls Tryz.prog 64 #[ptrV b, .int .i64 k, .int .i64 u] w fun e w' => e = .returned (.tuple #[]) ∧ MkAt w' b (m.tell k u) ∧ Kw (fun x => x = b) w w' := by
  obtain ⟨hka, e⟩ := getD_at ok hk
  obtain ⟨s0, s1⟩ := h.src hka
  have hm := ok.ms m.all[k] (List.getElem_mem hka)
  unfold Mk.tell
  rw [e]
  obtain ⟨⟨mk, idle⟩, hs⟩ : ∃ s, m.all[k] = s := ⟨_, rfl⟩
  rw [hs] at s0 hm ⊢
  dsimp only at s0 hm ⊢
  have hl := h.lt
  have g0 : (0 : Int) ≤ (k : Int) := by omega
  have g1 : (k : Int) < 16 := by have := ok.n2; omega
  have HC := Lib.hid (change_any b k (max mk u, false) m w h ok hk (by dsimp only; omega) (by dsimp only; omega))
  unfold ptrV at HC ⊢
  dsimp only at HC
  clear h ok e s1 hs hk hka
  by_cases hle : u ≤ mk
  · rw [Int.max_eq_left hle] at HC ⊢
    go_enter Tryz.func64, Tryz.ntmps64
    go_wp2_with (fail)
    refine HC.out.mono ?_
    rintro q w9 ⟨rfl, h9, k9⟩
    go_wp2_with (fail)
    go_end0
    exact ⟨rfl, h9, k9⟩
  · rw [Int.max_eq_right (by omega)] at HC ⊢
    go_enter Tryz.func64, Tryz.ntmps64
    go_wp2_with (fail)
    refine HC.out.mono ?_
    rintro q w9 ⟨rfl, h9, k9⟩
    go_wp2_with (fail)
    go_end0
    exact ⟨rfl, h9, k9⟩
end Go.Proofs.YtfojblbnhapedaaGreatDoor
