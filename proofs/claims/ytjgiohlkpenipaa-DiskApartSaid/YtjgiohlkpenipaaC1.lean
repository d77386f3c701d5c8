/- A disk at its block: contracts for laws. Conditions: as each theorem states them. -/
import Derived.Test.YtjgiohlkpenipaaC0
namespace Go.Proofs.Ytjgiohlkpenipaa
open Go.RowKit Go.Maps
set_option linter.unusedVariables false
set_option linter.unusedSimpArgs false

/-- At block d a disk in state s, all of it at B or above. -/
def Dk (w : World) (d : Nat) (s : DS) (B : Nat) : Prop := ∃ L, L.d = d ∧ DAt w L s ∧ ∀ b, Foot L s b → B ≤ b
theorem dP_eq {L : Lay} {d : Nat} (h : L.d = d) : dP L = ptrV d := by unfold dP ptrV; rw [h]
theorem Dk.below {w w' : World} {d : Nat} {s : DS} {B : Nat} (h : Dk w d s B) (k : Below w.heap.size w w') : Dk w' d s B := by
  obtain ⟨L, e, hd, hf⟩ := h
  exact ⟨L, e, hd.below k, hf⟩
theorem OpR.dk {w w' : World} {L : Lay} {s : DS} {res : Int × DS} {r : Ending} {B : Nat} (h : OpR w L s res r w') (hB : B ≤ w.heap.size) (hf : ∀ b, Foot L s b → B ≤ b) : r = .returned (.int .i64 res.1) ∧ Dk w' L.d res.2 B ∧ Below B w w' := by
  obtain ⟨h1, L', h2, h3, h4, h5⟩ := h
  refine ⟨h1, ⟨L', h2, h3, fun b hb => ?_⟩, h4.below hB hf⟩
  rcases h5 b hb with h | h
  · exact hf b h
  · omega
theorem DoR.dk {w w' : World} {L : Lay} {s s' : DS} {r : Ending} {B : Nat} (h : DoR w L s s' r w') (hB : B ≤ w.heap.size) (hf : ∀ b, Foot L s b → B ≤ b) : r = .returned (.tuple #[]) ∧ Dk w' L.d s' B ∧ Below B w w' := by
  obtain ⟨h1, L', h2, h3, h4, h5⟩ := h
  refine ⟨h1, ⟨L', h2, h3, fun b hb => ?_⟩, h4.below hB hf⟩
  rcases h5 b hb with h | h
  · exact hf b h
  · omega
section
variable {w : World} {d : Nat} {s : DS} {B : Nat}
theorem new_dk (room : Nat) (w : World) (h : room ≤ 268435456) : Calls Try.prog 10 #[.int .i64 room] w fun e w' => ∃ d, e = .returned (.tuple #[ptrV d, .int .i64 0]) ∧ Dk w' d (newS room) w.heap.size ∧ Below w.heap.size w w' := by
  refine (new_any room w h).mono ?_
  rintro e w' ⟨rfl, h1, h2⟩
  refine ⟨w.heap.size + 2, rfl, ⟨newL w, rfl, h1, fun b hb => ?_⟩, h2⟩
  rcases hb with e | e | e | ⟨i, hi, _⟩ | e
  · have e : b = w.heap.size + 2 := e
    omega
  · have e : b = w.heap.size := e
    omega
  · have e : b = w.heap.size + 1 := e
    omega
  · exact absurd hi (newS_has room i)
  · cases e
theorem create_dk (h : Dk w d s B) (iv : Inv s) (hs : s.steps < 1000000) (hB : B ≤ w.heap.size) {n : ByteArray} (hn : okN n) : Calls Try.prog 11 #[ptrV d, .string n] w fun r w' => r = .returned (.int .i64 (s.create n).1) ∧ Dk w' d (s.create n).2 B ∧ Below B w w' := by
  obtain ⟨L, rfl, hd, hf⟩ := h
  exact (create_any L s n w hd iv.ok hs hn).mono (fun r w' h => h.dk hB hf)
theorem append_dk (h : Dk w d s B) (iv : Inv s) (hs : s.steps < 1000000) (hB : B ≤ w.heap.size) {n data : ByteArray} (hn : okN n) (hds : data.size ≤ 2000) : Calls Try.prog 12 #[ptrV d, .string n, .string data] w fun r w' => r = .returned (.int .i64 (s.append n data).1) ∧ Dk w' d (s.append n data).2 B ∧ Below B w w' := by
  obtain ⟨L, rfl, hd, hf⟩ := h
  exact (append_any L s n data w hd iv.ok hs hn hds).mono (fun r w' h => h.dk hB hf)
theorem sync_dk (h : Dk w d s B) (iv : Inv s) (hs : s.steps < 1000000) (hB : B ≤ w.heap.size) {n : ByteArray} (hn : okN n) : Calls Try.prog 13 #[ptrV d, .string n] w fun r w' => r = .returned (.int .i64 (s.fsync n).1) ∧ Dk w' d (s.fsync n).2 B ∧ Below B w w' := by
  obtain ⟨L, rfl, hd, hf⟩ := h
  exact (sync_any L s n w hd iv.ok hs hn).mono (fun r w' h => h.dk hB hf)
theorem syncdir_dk (h : Dk w d s B) (iv : Inv s) (hs : s.steps < 1000000) (hB : B ≤ w.heap.size) : Calls Try.prog 14 #[ptrV d] w fun r w' => r = .returned (.int .i64 s.dsync.1) ∧ Dk w' d s.dsync.2 B ∧ Below B w w' := by
  obtain ⟨L, rfl, hd, hf⟩ := h
  exact (syncdir_any L s w hd iv.ok hs).mono (fun r w' h => h.dk hB hf)
theorem rename_dk (h : Dk w d s B) (iv : Inv s) (hs : s.steps < 1000000) (hB : B ≤ w.heap.size) {n to : ByteArray} (hn : okN n) : Calls Try.prog 15 #[ptrV d, .string n, .string to] w fun r w' => r = .returned (.int .i64 (s.rename n to).1) ∧ Dk w' d (s.rename n to).2 B ∧ Below B w w' := by
  obtain ⟨L, rfl, hd, hf⟩ := h
  exact (rename_any L s n to w hd iv.ok hs hn).mono (fun r w' h => h.dk hB hf)
theorem remove_dk (h : Dk w d s B) (iv : Inv s) (hs : s.steps < 1000000) (hB : B ≤ w.heap.size) {n : ByteArray} (hn : okN n) : Calls Try.prog 47 #[ptrV d, .string n] w fun r w' => r = .returned (.int .i64 (s.remove n).1) ∧ Dk w' d (s.remove n).2 B ∧ Below B w w' := by
  obtain ⟨L, rfl, hd, hf⟩ := h
  exact (remove_any L s n w hd iv.ok hs hn).mono (fun r w' h => h.dk hB hf)
/-- Choices below B, or none. -/
def ChA (B : Nat) (A : Option Addr) : Prop := ∀ a, A = some a → a.block < B
theorem crash_dk (h : Dk w d s B) (iv : Inv s) (hB : B ≤ w.heap.size) {cs : List Int} {A : Option Addr} {c : Nat} (hA : RdC w A cs) (hc : cs.length ≤ c) (hoff : 0 < cs.length → ∀ a, A = some a → a.block < w.heap.size ∧ ∀ L, L.d = d → DAt w L s → ¬ Foot L s a.block) : Calls Try.prog 16 #[ptrV d, .slice A cs.length c] w fun r w' => r = .returned (.tuple #[]) ∧ Dk w' d (s.crash cs) B ∧ Below B w w' := by
  obtain ⟨L, rfl, hd, hf⟩ := h
  exact (crash_any L s cs A c w hd iv.ok iv.sk hA hc (fun hp a ha => ⟨(hoff hp a ha).1, (hoff hp a ha).2 L rfl hd⟩)).mono (fun r w' h => h.dk hB hf)
theorem crash_arg (h : Dk w d s B) (iv : Inv s) (hB : B ≤ w.heap.size) {cs : List Int} {A : Option Addr} {c : Nat} (hA : RdC w A cs) (hc : cs.length ≤ c) (hoff : 0 < cs.length → ChA B A) : Calls Try.prog 16 #[ptrV d, .slice A cs.length c] w fun r w' => r = .returned (.tuple #[]) ∧ Dk w' d (s.crash cs) B ∧ Below B w w' := by
  obtain ⟨L, rfl, hd, hf⟩ := h
  refine (crash_any L s cs A c w hd iv.ok iv.sk hA hc (fun hp a ha => ?_)).mono (fun r w' h => h.dk hB hf)
  have := hoff hp a ha
  exact ⟨by omega, fun hb => by have := hf _ hb; omega⟩
theorem read_dk (h : Dk w d s B) {n : ByteArray} (hn : okN n) : Calls Try.prog 17 #[ptrV d, .string n] w fun e w' => e = .returned (.tuple #[.string (s.read n).1, .int .i64 (s.read n).2]) ∧ w = w' := by
  obtain ⟨L, rfl, hd, hf⟩ := h
  exact read_any L s n w hd hn
theorem down_dk (h : Dk w d s B) : Calls Try.prog 20 #[ptrV d] w fun e w' => e = .returned (.bool s.down) ∧ w = w' := by
  obtain ⟨L, rfl, hd, hf⟩ := h
  exact down_any L s w hd
theorem steps_dk (h : Dk w d s B) : Calls Try.prog 22 #[ptrV d] w fun e w' => e = .returned (.int .i64 s.steps) ∧ w = w' := by
  obtain ⟨L, rfl, hd, hf⟩ := h
  exact steps_any L s w hd
theorem fuse_dk (h : Dk w d s B) (hB : B ≤ w.heap.size) {n : Int} (hn : n < 9223372036854775808) : Calls Try.prog 21 #[ptrV d, .int .i64 n] w fun e w' => e = .returned (.tuple #[]) ∧ Dk w' d (s.fuseTo n) B ∧ Below B w w' := by
  obtain ⟨L, rfl, hd, hf⟩ := h
  refine (fuse_any L s n w hd hn).mono ?_
  rintro e w' ⟨rfl, h1, h2⟩
  refine ⟨rfl, ⟨L, rfl, h1, fun b hb => hf b ?_⟩, h2.below hB (fun b e => hf b (.inl e))⟩
  have e1 : (s.fuseTo n).dir = s.dir ∧ (s.fuseTo n).kept = s.kept ∧ (s.fuseTo n).waits = s.waits := by
    unfold DS.fuseTo
    split <;> exact ⟨rfl, rfl, rfl⟩
  exact foot_eq e1.1 e1.2.1 e1.2.2 hb
end
/-! ## awake -/
def bA : ByteArray := ⟨#[97]⟩
def xyz : ByteArray := ⟨#[120, 121, 122]⟩
def xy : ByteArray := ⟨#[120, 121]⟩
def nine : ByteArray := ⟨#[49, 50, 51, 52, 53, 54, 55, 56, 57]⟩
def aw1 : DS := ((newS 10).create bA).2
def aw2 : DS := aw1.dsync.2
def aw3 : DS := (aw2.append bA xyz).2
def aw4 : DS := aw3.crash [0, 2]
theorem aw_1 : ((newS 10).create bA).1 = 0 := by decide +kernel
theorem aw_2 : aw1.dsync.1 = 0 := by decide +kernel
theorem aw_3 : (aw2.append bA xyz).1 = 0 := by decide +kernel
theorem aw_4 : aw4.read bA = (xy, 0) := by decide +kernel
theorem aw_5 : (aw4.append bA nine).1 = 8 := by decide +kernel
theorem aw_s : aw1.steps = 1 ∧ aw2.steps = 2 ∧ aw3.steps = 3 ∧ aw4.steps = 3 := by decide +kernel
end Go.Proofs.Ytjgiohlkpenipaa
