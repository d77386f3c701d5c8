/- The contract of code.PutOrd. -/
import Derived.Test.YtgpmceimhfkncaaB3
import Derived.Test.YtgpmceimhfkncaaWWords
namespace Go.Proofs.Ytgpmceimhfkncaa
open Go.RowKit
set_option linter.unusedVariables false
set_option linter.unusedSimpArgs false
/-- The eight bytes of a number, the greatest first. -/
def ord8 (u : Int) : List Int := [u / 72057594037927936 % 256, u / 281474976710656 % 256, u / 1099511627776 % 256, u / 4294967296 % 256, u / 16777216 % 256, u / 65536 % 256, u / 256 % 256, u % 256]
set_option maxRecDepth 100000 in
set_option maxHeartbeats 1000000 in
theorem putord (n : Int) (w : World) :
    Calls Try.prog 33 #[.int .i64 n] w fun e w' => e = .returned (.string (strOfNums (ord8 (Go.bits BinOp.xor IntKind.u64 (IntKind.u64.wrap n) 9223372036854775808)))) ∧ Below w.heap.size w w' := by
  go_enter Try.func33, Try.ntmps33
  go_wp2_with (fail)
  generalize hu : Go.bits BinOp.xor IntKind.u64 (IntKind.u64.wrap n) 9223372036854775808 = u
  have HU := Lib.hid hu
  clear hu
  refine wp_loop_rounds 9 ?_
  iterate 9
    rw [rounds_succ]
    go_wp2_with (fail)
  have hconv := Go.Proofs.YtgpmceimhfkncaaW.PrintWords.string_of_reads (P := Try.prog) (w := w.alloc (Obj.cells #[Value.int IntKind.u8 (u / 72057594037927936 % 256), Value.int IntKind.u8 (u / 281474976710656 % 256), Value.int IntKind.u8 (u / 1099511627776 % 256), Value.int IntKind.u8 (u / 4294967296 % 256), Value.int IntKind.u8 (u / 16777216 % 256), Value.int IntKind.u8 (u / 65536 % 256), Value.int IntKind.u8 (u / 256 % 256), Value.int IntKind.u8 (u % 256)] 62)) (src := 63) (dst := 9) (e := 5) (A := some ⟨w.heap.size, 0, none⟩) (n := 8) (c := 8) (xs := ord8 u) Try.underlying63 Try.underlying5 Try.underlying9
    ⟨rfl, by decide, fun _ => ⟨_, rfl, fun j hj => by
      rw [Addr.add_lit]
      match j, hj with
      | 0, _ | 1, _ | 2, _ | 3, _ | 4, _ | 5, _ | 6, _ | 7, _ => go_simp <;> rfl⟩⟩
  simp only [hconv]
  clear hconv
  go_wp2
  go_ret
  refine ⟨by rw [HU.out]; rfl, ?_⟩
  repeat first | exact Below.refl _ _ | refine Below.drew ?_ | refine bl_alloc ?_ _
end Go.Proofs.Ytgpmceimhfkncaa
