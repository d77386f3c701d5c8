/- Changes: windows that get a value, and those that go into them, as rows. Conditions: as each theorem states them. -/
import Derived.Test.YtfojblbnhapedaaGreatDoorF5
namespace Go.Proofs.YtfojblbnhapedaaGreatDoor
open Go.RowKit Go.Maps
set_option linter.unusedVariables false
set_option linter.unusedSimpArgs false

/-- A window that gets a value, and those that go into it. -/
structure Chg where
  p : Pl
  ws : List (Int × Int)
/-- v is a row of windows. -/
def WinsAt (w : World) (v : Value) (ws : List (Int × Int)) : Prop := w.ownsRow 0 54 2 v ws.length (wcells ws)
/-- The cells xs are the changes l. -/
def ChsAt (w : World) : List Value → List Chg → Prop
  | [], [] => True
  | a :: b :: c :: d :: e :: xs, g :: l => a = .int .i64 g.p.op ∧ b = .string g.p.key ∧ c = .int .i64 g.p.f ∧ d = .int .i64 g.p.t ∧ WinsAt w e g.ws ∧ ChsAt w xs l
  | _, _ => False
theorem own_kw {w w' : World} {S : Nat → Prop} {e size n : Nat} {v : Value} {xs : List Value} (h : w.ownsRow 0 e size v n xs) (k : Kw S w w') (hS : ∀ g cur, w.heap[g]? = some (Obj.cells cur e) → ¬ S g) : w'.ownsRow 0 e size v n xs := by
  refine ⟨h.1, ?_⟩
  rcases h.2 with h0 | ⟨g, c, cur, e1, hb, hg, hr⟩
  · exact .inl h0
  · exact .inr ⟨g, c, cur, e1, hb, (k.block g (Array.getElem?_eq_some_iff.1 hg).1 (hS g cur hg)).trans hg, hr⟩
theorem ChsAt.kw {w w' : World} {S : Nat → Prop} (k : Kw S w w') (hS : ∀ g cur, w.heap[g]? = some (Obj.cells cur 54) → ¬ S g) : ∀ (l : List Chg) (xs : List Value), ChsAt w xs l → ChsAt w' xs l
  | [], xs, h => by
    cases xs with
    | nil => trivial
    | cons a xs => rcases xs with _ | ⟨b, _ | ⟨c, _ | ⟨d, _ | ⟨e, xs⟩⟩⟩⟩ <;> exact absurd h (by simp [ChsAt])
  | g :: l, xs, h => by
    rcases xs with _ | ⟨a, _ | ⟨b, _ | ⟨c, _ | ⟨d, _ | ⟨e, xs⟩⟩⟩⟩⟩
    · exact absurd h (by simp [ChsAt])
    · exact absurd h (by simp [ChsAt])
    · exact absurd h (by simp [ChsAt])
    · exact absurd h (by simp [ChsAt])
    · exact absurd h (by simp [ChsAt])
    · obtain ⟨h1, h2, h3, h4, h5, h6⟩ := h
      exact ⟨h1, h2, h3, h4, own_kw h5 k hS, ChsAt.kw k hS l xs h6⟩
theorem ChsAt.len {w : World} : ∀ (l : List Chg) (xs : List Value), ChsAt w xs l → xs.length = l.length * 5
  | [], xs, h => by
    cases xs with
    | nil => rfl
    | cons a xs => rcases xs with _ | ⟨b, _ | ⟨c, _ | ⟨d, _ | ⟨e, xs⟩⟩⟩⟩ <;> exact absurd h (by simp [ChsAt])
  | g :: l, xs, h => by
    rcases xs with _ | ⟨a, _ | ⟨b, _ | ⟨c, _ | ⟨d, _ | ⟨e, xs⟩⟩⟩⟩⟩
    · exact absurd h (by simp [ChsAt])
    · exact absurd h (by simp [ChsAt])
    · exact absurd h (by simp [ChsAt])
    · exact absurd h (by simp [ChsAt])
    · exact absurd h (by simp [ChsAt])
    · obtain ⟨_, _, _, _, _, h6⟩ := h
      have := ChsAt.len l xs h6
      simp only [List.length_cons]
      omega
theorem ChsAt.snoc {w : World} {g : Chg} {v : Value} (hv : WinsAt w v g.ws) : ∀ (l : List Chg) (xs : List Value), ChsAt w xs l → ChsAt w (xs ++ [.int .i64 g.p.op, .string g.p.key, .int .i64 g.p.f, .int .i64 g.p.t, v]) (l ++ [g])
  | [], xs, h => by
    cases xs with
    | nil => exact ⟨rfl, rfl, rfl, rfl, hv, trivial⟩
    | cons a xs => rcases xs with _ | ⟨b, _ | ⟨c, _ | ⟨d, _ | ⟨e, xs⟩⟩⟩⟩ <;> exact absurd h (by simp [ChsAt])
  | f :: l, xs, h => by
    rcases xs with _ | ⟨a, _ | ⟨b, _ | ⟨c, _ | ⟨d, _ | ⟨e, xs⟩⟩⟩⟩⟩
    · exact absurd h (by simp [ChsAt])
    · exact absurd h (by simp [ChsAt])
    · exact absurd h (by simp [ChsAt])
    · exact absurd h (by simp [ChsAt])
    · exact absurd h (by simp [ChsAt])
    · obtain ⟨h1, h2, h3, h4, h5, h6⟩ := h
      exact ⟨h1, h2, h3, h4, h5, ChsAt.snoc hv l xs h6⟩
theorem i134 : (Tryz.prog.info? 134).map (fun i => (i.zero, i.size, i.bytes)) = some (some (.agg #[.int .i64 0, .string ⟨#[]⟩, .int .i64 0, .int .i64 0, .slice none 0 0]), 5, 64) := by kernel_rfl
theorem und130 : Tryz.prog.underlying 130 = some (.slice 134) := by kernel_rfl
theorem i56 : (Tryz.prog.info? 56).map (fun i => (i.zero, i.size, i.bytes)) = some (some (.agg #[.int .i64 0, .string ⟨#[]⟩, .int .i64 0, .int .i64 0, .string ⟨#[]⟩, .bool false]), 6, 64) := by kernel_rfl
theorem und50 : Tryz.prog.underlying 50 = some (.slice 56) := by kernel_rfl
theorem i105 : (Tryz.prog.info? 105).map (fun i => (i.zero, i.size, i.bytes)) = some (some (.agg #[.int .i64 0, .string ⟨#[]⟩, .int .i64 0, .int .i64 0]), 4, 40) := by kernel_rfl
theorem und138 : Tryz.prog.underlying 138 = some (.slice 105) := by kernel_rfl
theorem i2r : (Tryz.prog.info? 2).map (fun i => (i.zero, i.size, i.bytes)) = some (some (.int .i64 0), 1, 8) := by kernel_rfl
theorem und135 : Tryz.prog.underlying 135 = some (.slice 2) := by kernel_rfl
end Go.Proofs.YtfojblbnhapedaaGreatDoor
