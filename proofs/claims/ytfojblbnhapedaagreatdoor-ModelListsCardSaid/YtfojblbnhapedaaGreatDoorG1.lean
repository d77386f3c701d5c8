/- Look-ups with 'ok'; Assign at any kind; a window of a row. Conditions: as each theorem states them. -/
import Derived.Test.YtfojblbnhapedaaGreatDoorG0
namespace Go.Proofs.YtfojblbnhapedaaGreatDoor
open Go.RowKit Go.Maps
set_option linter.unusedVariables false
set_option linter.unusedSimpArgs false

/-- Does an open window stand at a place? -/
def Md.has (M : Md) (x : Pl) : Prop := ∃ y ∈ M.L, y.p = x
theorem MapAt.look2 {w : World} {m : Nat} {L : List (Pl × Rw)} (h : MapAt w m L) {x : Pl} (hx : okPl x) :
    (∀ b ∈ L, b.1 = x → (Instr.lookup 85 (.map (some m)) (plV x) true).run Tryz.prog w = .ok (.tuple #[rwV b.2, .bool true]) w) ∧
    ((∀ b ∈ L, b.1 ≠ x) → (Instr.lookup 85 (.map (some m)) (plV x) true).run Tryz.prog w = .ok (.tuple #[.slice none 0 0, .bool false]) w) := by
  obtain ⟨h0, D, ho, h1, h2, h3⟩ := h
  obtain ⟨v, ps, hrun, hv⟩ := ho.look_ok keyK u85 (zero135 w) RQ_nil (key_some hx)
  constructor
  · rintro b hb rfl
    rw [(h2 b hb).1] at hrun
    rw [(h2 b hb).2] at hv
    rw [hrun, RQ_row_inv hv]
  · intro hn
    rw [h3 x hx hn] at hrun
    rw [atKey_of_not_has (h3 x hx hn)] at hv
    rw [hrun, RQ_nil_inv hv]
theorem wcells_len' (l : List (Int × Int)) : (wcells l).length = l.length * 2 := by
  induction l with
  | nil => rfl
  | cons p l ih => simp [wcells] at ih ⊢; omega
theorem wcells_at' : ∀ (l : List (Int × Int)) (i : Nat) (h : i < l.length), (wcells l)[i * 2]? = some (.int .i64 (l[i]).1) ∧ (wcells l)[i * 2 + 1]? = some (.int .i64 (l[i]).2)
  | [], i, h => absurd h (Nat.not_lt_zero _)
  | p :: l, 0, _ => ⟨rfl, rfl⟩
  | p :: l, i + 1, h => by
    have := wcells_at' l i (by simpa using h)
    rw [show (i + 1) * 2 = i * 2 + 1 + 1 by omega]
    simpa [wcells] using this
/-- A row of windows: nil, or a block. -/
theorem WinsAt.at_ {w : World} {v : Value} {ws : List (Int × Int)} {B : Nat} (h : w.ownsRow B 54 2 v ws.length (wcells ws)) :
    ∃ A c, v = .slice A ws.length c ∧ (0 < ws.length → ∃ g, A = some ⟨g, 0, none⟩ ∧ B ≤ g ∧ g < w.heap.size ∧ (∃ cur, w.heap[g]? = some (Obj.cells cur 54)) ∧ ∀ i (hi : i < ws.length), w.cell? ⟨g, i * 2, none⟩ = some (.int .i64 (ws[i]).1) ∧ w.cell? ⟨g, i * 2 + 1, none⟩ = some (.int .i64 (ws[i]).2)) := by
  rcases h.2 with ⟨h0, h1⟩ | ⟨g, c, cur, h0, hB, hg, hr⟩
  · subst h0
    refine ⟨none, 0, ?_, fun hl => ?_⟩
    · have hl : ws.length = 0 := by
        have := h.1
        have := wcells_len' ws
        omega
      rw [hl]
    · have := wcells_len' ws
      have h2 := h.1
      omega
  · refine ⟨some ⟨g, 0, none⟩, c, h0, fun hl => ⟨g, rfl, hB, (Array.getElem?_eq_some_iff.1 hg).1, ⟨cur, hg⟩, fun i hi => ?_⟩⟩
    obtain ⟨a1, a2⟩ := wcells_at' ws i hi
    have hh := hr.2.2.2
    rw [← hh, List.getElem?_take_of_lt (by omega), Array.getElem?_toList] at a1 a2
    exact ⟨(cell_of hg _).trans a1, (cell_of hg _).trans a2⟩
theorem winsL_len1 {K S L t : Int} (h : K = 1 ∨ K = 3) : (winsL K S L t).length = 1 := by
  unfold winsL
  rcases h with rfl | rfl <;> simp
theorem assign_any (K S L t : Int) (w : World) (hq : chkV K S L = 0) (h1 : ¬ t < -1125899906842624) (h2 : ¬ 1125899906842624 < t) :
    Calls Tryz.prog 84 #[.agg #[.int .i64 K, .int .i64 S, .int .i64 L], .int .i64 t] w fun e w' => ∃ v, e = .returned (.tuple #[v, .int .i64 0]) ∧ w'.ownsRow w.heap.size 54 2 v (winsL K S L t).length (wcells (winsL K S L t)) ∧ Below w.heap.size w w' := by
  have hK : K = 1 ∨ K = 2 ∨ K = 3 := by
    unfold chkV at hq
    cases plainB S L <;> cases slidB S L <;> (repeat' split at hq) <;> simp_all <;> omega
  rcases hK with rfl | rfl | rfl
  · exact assign_1 S L t w hq h1 h2
  · have e : winsL 2 S L t = slL t S L (slN t S L) := by unfold winsL; rw [if_neg (by decide), if_pos rfl]
    have el : (slL t S L (slN t S L)).length = slN t S L := by simp [slL]
    rw [e, el]
    exact assign_2 S L t w hq h1 h2
  · exact assign_3 S L t w hq h1 h2
end Go.Proofs.YtfojblbnhapedaaGreatDoor
