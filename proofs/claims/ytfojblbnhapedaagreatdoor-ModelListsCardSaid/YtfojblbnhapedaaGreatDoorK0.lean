/- The openings of the model laws' arguments, and the laid condition's witness. Conditions: as each theorem states them. -/
import Derived.Test.YtfojblbnhapedaaGreatDoorRows
import Derived.Test.YtfojblbnhapedaaGreatDoorTie
import Derived.Test.YtfojblbnhapedaaGreatDoorF3
import Derived.LaidMore
import Derived.OpenShut
import Derived.ShutString
import Derived.ChangeOld
import Derived.Below
import Derived.SizedLaws
import Derived.Lib.SmallJoins
import Derived.WalkKit
import Derived.ProofKit
import Derived.Stop.Joined
namespace Go.Proofs.YtfojblbnhapedaaGreatDoor
open Go.ChangeShapes Go.WideShapes Go.ChangeAt Go.RowKit Go.Joins
set_option linter.unusedVariables false
set_option linter.unusedSimpArgs false
theorem row_own : ownKnob Tryz.prog.godebug = none := by kernel_rfl
theorem row_laidOut : laidOutB Tryz.prog = true := by kernel_rfl
theorem array5 {α : Type} {cs : Array α} (h : cs.size = 5) : ∃ c0 c1 c2 c3 c4, cs = #[c0, c1, c2, c3, c4] := by
  obtain ⟨l⟩ := cs
  match l, h with
  | [c0, c1, c2, c3, c4], _ => exact ⟨c0, c1, c2, c3, c4, rfl⟩
section
variable {H : Type} {enc : TypeId × Value → H} {w : World} {base : Nat} {sp : Nat → Bool} {held : Bool}
set_option maxRecDepth 100000 in
theorem open_ev {r : Reach} {b0 : Nat} {v : Value} {d : DataW H} {p : List MemPlace} (hv : Value.okWide Tryz.prog w r b0 26 v) (h : DataW.Trod enc Tryz.prog w base sp held 26 v d p) : ∃ ev : Ev, v = evV ev := by
  obtain ⟨cs, rfl, hsz⟩ := okWide_struct Tryz.underlying26 hv
  obtain ⟨c0, c1, c2, c3, c4, rfl⟩ := array5 (hsz.trans (by kernel_rfl))
  obtain ⟨fuel, hf⟩ := h
  obtain ⟨xs, n, _, _, _, hlen, hx⟩ := DataW.trod_struct Tryz.underlying26 hf
  match xs, hlen, hx with
  | [y0, y1, y2, y3, y4], _, hx =>
    have h0 := hx 0 _ rfl
    have h1 := hx 1 _ rfl
    have h2 := hx 2 _ rfl
    have h3 := hx 3 _ rfl
    have h4 := hx 4 _ rfl
    have q2 : Tryz.prog.cellsOf 2 = 1 := by kernel_rfl
    have q3 : Tryz.prog.cellsOf 3 = 1 := by kernel_rfl
    have q9 : Tryz.prog.cellsOf 9 = 1 := by kernel_rfl
    obtain ⟨a0, e0, _, _⟩ := DataW.trod_int Tryz.underlying3 h0
    obtain ⟨a1, e1, _, _⟩ := DataW.trod_int Tryz.underlying3 h1
    obtain ⟨a2, e2, _, _⟩ := DataW.trod_int Tryz.underlying2 h2
    obtain ⟨a3, e3, _, _⟩ := DataW.trod_string Tryz.underlying9 h3
    obtain ⟨a4, e4, _, _⟩ := DataW.trod_int Tryz.underlying2 h4
    have e0' : List.take (Tryz.prog.cellsOf 3) (List.drop 0 [c0, c1, c2, c3, c4]) = [.int .i64 a0] := e0
    rw [q3] at e0'
    have g0 : c0 = .int .i64 a0 := by simpa using e0'
    have e1' : List.take (Tryz.prog.cellsOf 3) (List.drop 1 [c0, c1, c2, c3, c4]) = [.int .i64 a1] := e1
    rw [q3] at e1'
    have g1 : c1 = .int .i64 a1 := by simpa using e1'
    have e2' : List.take (Tryz.prog.cellsOf 2) (List.drop 2 [c0, c1, c2, c3, c4]) = [.int .i64 a2] := e2
    rw [q2] at e2'
    have g2 : c2 = .int .i64 a2 := by simpa using e2'
    have e3' : List.take (Tryz.prog.cellsOf 9) (List.drop 3 [c0, c1, c2, c3, c4]) = [.string a3] := e3
    rw [q9] at e3'
    have g3 : c3 = .string a3 := by simpa using e3'
    have e4' : List.take (Tryz.prog.cellsOf 2) (List.drop 4 [c0, c1, c2, c3, c4]) = [.int .i64 a4] := e4
    rw [q2] at e4'
    have g4 : c4 = .int .i64 a4 := by simpa using e4'
    subst g0 g1 g2 g3 g4
    exact ⟨⟨a0, a1, a2, a3, a4⟩, rfl⟩
end
/-- What the rows lay. -/
abbrev laidL : List (String × DataW Unit) := [("math/bits.deBruijn32tab", Rows.laid_math_bits_deBruijn32tab), ("math/bits.deBruijn64tab", Rows.laid_math_bits_deBruijn64tab), ("internal/strconv.uint64pow10", Rows.laid_internal_strconv_uint64pow10)]
theorem door_met (os : Os) (args : Array Value) : laidMetH Tryz.prog laidL ((World.doorLaid Tryz.prog 400 os).forCall (fun _ _ => 0) ⟨#[], args, []⟩).memory :=
  laidMetH_of_parts3 (fuel := 8) (laidMet_of_run' 8 (by kernel_rfl) (by kernel_rfl)) (by kernel_rfl) (by kernel_rfl)
end Go.Proofs.YtfojblbnhapedaaGreatDoor
