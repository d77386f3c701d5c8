/- The opening of a job, and of an event's key. Conditions: as each theorem states them. -/
import Derived.Test.YtfojblbnhapedaaGreatDoorK0
import Derived.Test.YtfojblbnhapedaaGreatDoorB4
namespace Go.Proofs.YtfojblbnhapedaaGreatDoor
open Go.ChangeShapes Go.WideShapes Go.ChangeAt Go.RowKit Go.Joins
set_option linter.unusedVariables false
set_option linter.unusedSimpArgs false
theorem q2 : Tryz.prog.cellsOf 2 = 1 := by kernel_rfl
theorem q3 : Tryz.prog.cellsOf 3 = 1 := by kernel_rfl
theorem q9 : Tryz.prog.cellsOf 9 = 1 := by kernel_rfl
theorem q22 : Tryz.prog.cellsOf 22 = 1 := by kernel_rfl
theorem q46 : Tryz.prog.cellsOf 46 = 3 := by kernel_rfl
theorem q48 : Tryz.prog.cellsOf 48 = 5 := by kernel_rfl
theorem list5 {α : Type} {l : List α} (h : l.length = 5) : ∃ a b c d e, l = [a, b, c, d, e] := by
  match l, h with
  | [a, b, c, d, e], _ => exact ⟨a, b, c, d, e, rfl⟩
theorem addr_add_add (a : Addr) (m k : Nat) : (a.add m).add k = a.add (m + k) := by
  unfold Addr.add
  by_cases h1 : m = 0 <;> by_cases h2 : k = 0 <;> simp [h1, h2, Nat.add_assoc]
section
variable {H : Type} {enc : TypeId × Value → H} {w : World} {base : Nat} {sp : Nat → Bool} {held : Bool}
set_option maxRecDepth 100000 in
theorem open_op {n : Nat} {cs : List Value} {x : DataW H × List MemPlace} (h : DataW.trod enc Tryz.prog w base sp held n 48 cs = some x) : ∃ o : JOp, cs = opcells o ∧ okN o.nm := by
  obtain ⟨xs, n1, _, _, hl, hlen, hx⟩ := DataW.trod_struct Tryz.underlying48 h
  rw [q48] at hl
  obtain ⟨c0, c1, c2, c3, c4, rfl⟩ := list5 hl
  match xs, hlen, hx with
  | [y0, y1, y2], _, hx =>
    have h0 := hx 0 _ rfl
    have h1 := hx 1 _ rfl
    have h2 := hx 2 _ rfl
    obtain ⟨a0, e0, _, s0⟩ := DataW.trod_string Tryz.underlying9 h0
    obtain ⟨a1, e1, _, _⟩ := DataW.trod_int Tryz.underlying3 h1
    obtain ⟨zs, n2, _, _, hl2, hlen2, hz⟩ := DataW.trod_struct Tryz.underlying46 h2
    have e0' : List.take (Tryz.prog.cellsOf 9) (List.drop 0 [c0, c1, c2, c3, c4]) = [.string a0] := e0
    have e1' : List.take (Tryz.prog.cellsOf 3) (List.drop 1 [c0, c1, c2, c3, c4]) = [.int .i64 a1] := e1
    rw [q9] at e0'
    rw [q3] at e1'
    have g0 : c0 = .string a0 := by simpa using e0'
    have g1 : c1 = .int .i64 a1 := by simpa using e1'
    match zs, hlen2, hz with
    | [z0, z1, z2], _, hz =>
      have k0 := hz 0 _ rfl
      have k1 := hz 1 _ rfl
      have k2 := hz 2 _ rfl
      obtain ⟨b0, f0, _, _⟩ := DataW.trod_int Tryz.underlying3 k0
      obtain ⟨b1, f1, _, _⟩ := DataW.trod_int Tryz.underlying2 k1
      obtain ⟨b2, f2, _, _⟩ := DataW.trod_int Tryz.underlying2 k2
      have f0' : List.take (Tryz.prog.cellsOf 3) (List.drop 0 (List.take (Tryz.prog.cellsOf 46) (List.drop 2 [c0, c1, c2, c3, c4]))) = [.int .i64 b0] := f0
      have f1' : List.take (Tryz.prog.cellsOf 2) (List.drop 1 (List.take (Tryz.prog.cellsOf 46) (List.drop 2 [c0, c1, c2, c3, c4]))) = [.int .i64 b1] := f1
      have f2' : List.take (Tryz.prog.cellsOf 2) (List.drop 2 (List.take (Tryz.prog.cellsOf 46) (List.drop 2 [c0, c1, c2, c3, c4]))) = [.int .i64 b2] := f2
      rw [q46, q3] at f0'
      rw [q46, q2] at f1' f2'
      have i0 : c2 = .int .i64 b0 := by simpa using f0'
      have i1 : c3 = .int .i64 b1 := by simpa using f1'
      have i2 : c4 = .int .i64 b2 := by simpa using f2'
      subst g0 g1 i0 i1 i2
      exact ⟨⟨a0, a1, b0, b1, b2⟩, rfl, by unfold okN; simp only [maxLen] at s0; omega⟩
set_option maxRecDepth 100000 in
theorem open_ops {n : Nat} {cs : List Value} {x : DataW H × List MemPlace} (h : DataW.trod enc Tryz.prog w base sp held n 22 cs = some x) : ∃ A c, ∃ l : List JOp, cs = [.slice A l.length c] ∧ RdP w A l ∧ l.length ≤ c ∧ c ≤ 9223372036854775807 := by
  rcases DataW.trod_slice Tryz.underlying22 h with ⟨rfl, _⟩ | ⟨a, len, cap, elems, rest, n1, _, rfl, _, _, hlc, hcm, hel, hx, _, _⟩
  · exact ⟨none, 0, [], rfl, ⟨fun hl => absurd hl (by simp), fun o ho => absurd ho (by simp)⟩, by simp, by simp⟩
  rw [q48] at hx
  have each : ∀ i, ∃ o : JOp, i < len → okN o.nm ∧ ∀ k, k < 5 → w.cell? (a.add (i * 5 + k)) = (opcells o)[k]? := by
    intro i
    by_cases hi : i < len
    · have h1 := hx i hi
      rw [List.getElem?_eq_getElem (by omega)] at h1
      obtain ⟨cs, hc, ht⟩ := Option.bind_eq_some_iff.1 h1
      obtain ⟨o, rfl, hk⟩ := open_op ht
      obtain ⟨_, _, hcell⟩ := World.cells?_some hc
      refine ⟨o, fun _ => ⟨hk, fun k hk5 => ?_⟩⟩
      have := hcell k hk5
      rw [← this]
      rw [addr_add_add]
    · exact ⟨zeroP, fun h => absurd h hi⟩
  obtain ⟨q, hq⟩ : ∃ q : Nat → JOp, ∀ i, i < len → okN (q i).nm ∧ ∀ k, k < 5 → w.cell? (a.add (i * 5 + k)) = (opcells (q i))[k]? := ⟨fun i => Classical.choose (each i), fun i => Classical.choose_spec (each i)⟩
  have hlen : ((List.range len).map q).length = len := by simp
  refine ⟨some a, cap, (List.range len).map q, by rw [hlen], ⟨fun hn => ?_, fun o ho => ?_⟩, by rw [hlen]; exact hlc, by simp only [maxLen] at hcm; omega⟩
  · rw [hlen] at hn ⊢
    have p0 := (hq 0 hn).2 0 (by omega)
    have p1 : w.cell? (a.add (0 * 5 + 0)) = some (.string (q 0).nm) := p0
    have hs := World.cell?_spot p1
    obtain ⟨b, off, spt⟩ := a
    have hs : spt = none := by simpa [Addr.add] using hs
    subst hs
    refine ⟨b, off, rfl, World.block_lt_of_cell? w _ p1, fun i hi => ?_⟩
    have hg : ((List.range len).map q).getD i zeroP = q i := by
      rw [List.getD_eq_getElem?_getD, List.getElem?_map, List.getElem?_range hi]
      rfl
    rw [hg]
    have h2 := (hq i hi).2
    have e : ∀ k, (⟨b, off, none⟩ : Addr).add (i * 5 + k) = ⟨b, off + i * 5 + k, none⟩ := fun k => by simp [Addr.add_lit, Nat.add_assoc]
    refine ⟨?_, ?_, ?_, ?_, ?_⟩
    · have := h2 0 (by omega); rw [e] at this; exact this
    · have := h2 1 (by omega); rw [e] at this; exact this
    · have := h2 2 (by omega); rw [e] at this; exact this
    · have := h2 3 (by omega); rw [e] at this; exact this
    · have := h2 4 (by omega); rw [e] at this; exact this
  · obtain ⟨i, hi, rfl⟩ := List.mem_map.1 ho
    exact (hq i (List.mem_range.1 hi)).1
set_option maxRecDepth 100000 in
theorem open_job {r : Reach} {b0 : Nat} {v : Value} {d : DataW H} {p : List MemPlace} (hv : Value.okWide Tryz.prog w r b0 24 v) (h : DataW.Trod enc Tryz.prog w base sp held 24 v d p) : ∃ j : Jb, v = jbV j ∧ RdP w j.A j.ops ∧ j.ops.length ≤ j.c ∧ j.c ≤ 9223372036854775807 := by
  obtain ⟨cs, rfl, hsz⟩ := okWide_struct Tryz.underlying24 hv
  obtain ⟨c0, c1, c2, c3, c4, rfl⟩ := array5 (hsz.trans (by kernel_rfl))
  obtain ⟨fuel, hf⟩ := h
  obtain ⟨xs, n, _, _, _, hlen, hx⟩ := DataW.trod_struct Tryz.underlying24 hf
  match xs, hlen, hx with
  | [y0, y1, y2, y3, y4], _, hx =>
    obtain ⟨a0, e0, _, _⟩ := DataW.trod_int Tryz.underlying3 (hx 0 _ rfl)
    obtain ⟨a1, e1, _, _⟩ := DataW.trod_int Tryz.underlying3 (hx 1 _ rfl)
    obtain ⟨a2, e2, _, _⟩ := DataW.trod_int Tryz.underlying2 (hx 2 _ rfl)
    obtain ⟨a3, e3, _, _⟩ := DataW.trod_int Tryz.underlying2 (hx 3 _ rfl)
    obtain ⟨A, c, l, e4, hA, hc, hcb⟩ := open_ops (hx 4 _ rfl)
    have e0' : List.take (Tryz.prog.cellsOf 3) (List.drop 0 [c0, c1, c2, c3, c4]) = [.int .i64 a0] := e0
    have e1' : List.take (Tryz.prog.cellsOf 3) (List.drop 1 [c0, c1, c2, c3, c4]) = [.int .i64 a1] := e1
    have e2' : List.take (Tryz.prog.cellsOf 2) (List.drop 2 [c0, c1, c2, c3, c4]) = [.int .i64 a2] := e2
    have e3' : List.take (Tryz.prog.cellsOf 2) (List.drop 3 [c0, c1, c2, c3, c4]) = [.int .i64 a3] := e3
    have e4' : List.take (Tryz.prog.cellsOf 22) (List.drop 4 [c0, c1, c2, c3, c4]) = [.slice A l.length c] := e4
    rw [q3] at e0' e1'
    rw [q2] at e2' e3'
    rw [q22] at e4'
    have g0 : c0 = .int .i64 a0 := by simpa using e0'
    have g1 : c1 = .int .i64 a1 := by simpa using e1'
    have g2 : c2 = .int .i64 a2 := by simpa using e2'
    have g3 : c3 = .int .i64 a3 := by simpa using e3'
    have g4 : c4 = .slice A l.length c := by simpa using e4'
    subst g0 g1 g2 g3 g4
    exact ⟨⟨a0, a1, a2, a3, l, A, c⟩, rfl, hA, hc, hcb⟩
set_option maxRecDepth 100000 in
theorem open_evz {r : Reach} {b0 : Nat} {v : Value} {d : DataW H} {p : List MemPlace} (hv : Value.okWide Tryz.prog w r b0 26 v) (h : DataW.Trod enc Tryz.prog w base sp held 26 v d p) : ∃ ev : Ev, v = evV ev ∧ okN ev.key := by
  obtain ⟨ev, rfl⟩ := open_ev hv h
  refine ⟨ev, rfl, ?_⟩
  obtain ⟨fuel, hf⟩ := h
  obtain ⟨xs, n, _, _, _, hlen, hx⟩ := DataW.trod_struct Tryz.underlying26 hf
  match xs, hlen, hx with
  | [y0, y1, y2, y3, y4], _, hx =>
    obtain ⟨a3, e3, _, s3⟩ := DataW.trod_string Tryz.underlying9 (hx 3 _ rfl)
    have e3' : List.take (Tryz.prog.cellsOf 9) (List.drop 3 [Value.int .i64 ev.k, .int .i64 ev.src, .int .i64 ev.t, .string ev.key, .int .i64 ev.v]) = [.string a3] := e3
    rw [q9] at e3'
    have g : ev.key = a3 := by simpa using e3'
    rw [g]
    unfold okN
    simp only [maxLen] at s3
    omega
end
end Go.Proofs.YtfojblbnhapedaaGreatDoor
