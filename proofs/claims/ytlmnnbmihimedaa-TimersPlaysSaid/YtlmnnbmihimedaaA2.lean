/- Contracts of the small functions of the queue: less, moved, the checks. Conditions: as each theorem states them. -/
import Derived.Test.YtlmnnbmihimedaaA1
namespace Go.Proofs.Ytlmnnbmihimedaa
open Go.RowKit
set_option linter.unusedVariables false
set_option linter.unusedSimpArgs false

/-- Block b of w is an item: its timer and its place. -/
structure ItemAt (w : World) (b : Nat) (x : Tm) (pl : Int) : Prop where
  c0 : w.cell? ⟨b, 0, none⟩ = some (.int .i64 x.t)
  c1 : w.cell? ⟨b, 1, none⟩ = some (.string x.k)
  c2 : w.cell? ⟨b, 2, none⟩ = some (.string x.s)
  c3 : w.cell? ⟨b, 3, none⟩ = some (.int .i64 pl)
  fz : w.frozen? ⟨b, 3, none⟩ = false
  lt : b < w.heap.size
def chkT (x : Tm) : Int := if x.t < -2251799813685248 ∨ 2251799813685248 < x.t ∨ 64 < x.k.size ∨ 64 < x.s.size then 2 else 0
set_option maxHeartbeats 1000000 in
theorem less_any (a b : Nat) (x y : Tm) (px py : Int) (w : World) (hx : ItemAt w a x px) (hy : ItemAt w b y py) (r : Int) (hr : cmpT x y = r) :
    Calls Try.prog 34 #[.pointer (some ⟨a, 0, none⟩), .pointer (some ⟨b, 0, none⟩)] w fun e w' => e = .returned (.bool (decide (r < 0))) ∧ Below w.heap.size w w' := by
  obtain ⟨x0, x1, x2, _, _, xl⟩ := hx
  obtain ⟨y0, y1, y2, _, _, yl⟩ := hy
  obtain ⟨t1, k1, s1⟩ := x
  obtain ⟨t2, k2, s2⟩ := y
  dsimp only at *
  go_enter Try.func34, Try.ntmps34
  go_wp2_with (fail)
  go_region_held3 (fun w' => w'.cell? ⟨a, 0, none⟩ = some (.int .i64 t1) ∧ w'.cell? ⟨a, 1, none⟩ = some (.string k1) ∧ w'.cell? ⟨a, 2, none⟩ = some (.string s1) ∧ w'.cell? ⟨b, 0, none⟩ = some (.int .i64 t2) ∧ w'.cell? ⟨b, 1, none⟩ = some (.string k2) ∧ w'.cell? ⟨b, 2, none⟩ = some (.string s2)) (first | go_keep | exact ⟨(hb5.cell (p := ⟨a, 0, none⟩) (by first | (simp; omega) | (simp; done) | omega)).trans (by first | assumption | go_keep | go_simp), (hb5.cell (p := ⟨a, 1, none⟩) (by first | (simp; omega) | (simp; done) | omega)).trans (by first | assumption | go_keep | go_simp), (hb5.cell (p := ⟨a, 2, none⟩) (by first | (simp; omega) | (simp; done) | omega)).trans (by first | assumption | go_keep | go_simp), (hb5.cell (p := ⟨b, 0, none⟩) (by first | (simp; omega) | (simp; done) | omega)).trans (by first | assumption | go_keep | go_simp), (hb5.cell (p := ⟨b, 1, none⟩) (by first | (simp; omega) | (simp; done) | omega)).trans (by first | assumption | go_keep | go_simp), (hb5.cell (p := ⟨b, 2, none⟩) (by first | (simp; omega) | (simp; done) | omega)).trans (by first | assumption | go_keep | go_simp)⟩)
    (first
      | (go_at_call 13; refine (cmp_any t1 t2 k1 k2 s1 s2 _ r hr).mono ?_; rintro e w5 ⟨rfl, hb5⟩))
  go_wp2
  go_ret
  refine ⟨rfl, ?_⟩
  repeat first | exact Below.refl _ _ | refine Below.drew ?_ | refine bl_drewN ?_ _ | refine bl_alloc ?_ _ | refine bl_then ?_ hb5
set_option maxHeartbeats 1000000 in
theorem moved_any (a : Nat) (x : Tm) (px k : Int) (w : World) (hx : ItemAt w a x px) :
    Calls Try.prog 35 #[.pointer (some ⟨a, 0, none⟩), .int .i64 k] w fun e w' => e = .returned (.tuple #[]) ∧ w' = w.setCell ⟨a, 3, none⟩ (.int .i64 k) := by
  obtain ⟨x0, x1, x2, x3, xf, xl⟩ := hx
  go_enter Try.func35, Try.ntmps35
  go_wp2
  go_end0
  exact ⟨rfl, rfl⟩
theorem check_any (x : Tm) (w : World) : Calls Try.prog 11 #[.agg #[.int .i64 x.t, .string x.k, .string x.s]] w fun e w' => e = .returned (.int .i64 (chkT x)) ∧ Below w.heap.size w w' := by
  obtain ⟨t1, k1, s1⟩ := x
  unfold chkT
  dsimp only
  go_enter Try.func11, Try.ntmps11
  go_wp2
  all_goals
    go_ret
    exact ⟨by first | rfl | (exfalso; omega), bl_alloc (Below.refl _ _) _⟩
end Go.Proofs.Ytlmnnbmihimedaa
