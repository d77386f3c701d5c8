/- The opening of a list of events; the table of powers of ten out of what a row lays. Conditions: as each theorem states them. -/
import Derived.Test.YtfojblbnhapedaaGreatDoorK1
import Derived.Test.YtfojblbnhapedaaGreatDoorX2
namespace Go.Proofs.YtfojblbnhapedaaGreatDoor
open Go.ChangeShapes Go.WideShapes Go.ChangeAt Go.RowKit Go.Joins
set_option linter.unusedVariables false
set_option linter.unusedSimpArgs false

def evcells (e : Ev) : List Value := [.int .i64 e.k, .int .i64 e.src, .int .i64 e.t, .string e.key, .int .i64 e.v]
/-- A slice at A reads as the events l. -/
def RdE (w : World) (A : Option Addr) (l : List Ev) : Prop :=
  (0 < l.length → ∃ b off, A = some ⟨b, off, none⟩ ∧ b < w.heap.size ∧ ∀ i (h : i < l.length), w.cell? ⟨b, off + i * 5, none⟩ = some (.int .i64 (l[i]).k) ∧ w.cell? ⟨b, off + i * 5 + 1, none⟩ = some (.int .i64 (l[i]).src) ∧
    w.cell? ⟨b, off + i * 5 + 2, none⟩ = some (.int .i64 (l[i]).t) ∧ w.cell? ⟨b, off + i * 5 + 3, none⟩ = some (.string (l[i]).key) ∧ w.cell? ⟨b, off + i * 5 + 4, none⟩ = some (.int .i64 (l[i]).v)) ∧
  ∀ e ∈ l, okN e.key ∧ i64 e.v
theorem RdE.below {w w' : World} {A : Option Addr} {l : List Ev} (h : RdE w A l) (k : Below w.heap.size w w') : RdE w' A l := by
  refine ⟨fun hl => ?_, h.2⟩
  obtain ⟨b, off, rfl, hb, hc⟩ := h.1 hl
  refine ⟨b, off, rfl, Nat.lt_of_lt_of_le hb k.size, fun i hi => ?_⟩
  obtain ⟨h0, h1, h2, h3, h4⟩ := hc i hi
  exact ⟨(k.cell hb).trans h0, (k.cell hb).trans h1, (k.cell hb).trans h2, (k.cell hb).trans h3, (k.cell hb).trans h4⟩
theorem RdE.at_ {w : World} {A : Option Addr} {l : List Ev} (h : RdE w A l) (hl : 0 < l.length) : ∃ b off, A = some ⟨b, off, none⟩ ∧ b < w.heap.size ∧ ∀ i (h : i < l.length), w.cell? ⟨b, off + i * 5, none⟩ = some (.int .i64 (l[i]).k) ∧ w.cell? ⟨b, off + i * 5 + 1, none⟩ = some (.int .i64 (l[i]).src) ∧
    w.cell? ⟨b, off + i * 5 + 2, none⟩ = some (.int .i64 (l[i]).t) ∧ w.cell? ⟨b, off + i * 5 + 3, none⟩ = some (.string (l[i]).key) ∧ w.cell? ⟨b, off + i * 5 + 4, none⟩ = some (.int .i64 (l[i]).v) := h.1 hl
theorem q26 : Tryz.prog.cellsOf 26 = 5 := by kernel_rfl
section
variable {H : Type} {enc : TypeId × Value → H} {w : World} {base : Nat} {sp : Nat → Bool} {held : Bool}
set_option maxRecDepth 100000 in
theorem open_evc {n : Nat} {cs : List Value} {x : DataW H × List MemPlace} (h : DataW.trod enc Tryz.prog w base sp held n 26 cs = some x) : ∃ e : Ev, cs = evcells e ∧ okN e.key ∧ i64 e.v := by
  obtain ⟨xs, n1, _, _, hl, hlen, hx⟩ := DataW.trod_struct Tryz.underlying26 h
  rw [q26] at hl
  obtain ⟨c0, c1, c2, c3, c4, rfl⟩ := list5 hl
  match xs, hlen, hx with
  | [y0, y1, y2, y3, y4], _, hx =>
    obtain ⟨a0, e0, _, _⟩ := DataW.trod_int Tryz.underlying3 (hx 0 _ rfl)
    obtain ⟨a1, e1, _, _⟩ := DataW.trod_int Tryz.underlying3 (hx 1 _ rfl)
    obtain ⟨a2, e2, _, _⟩ := DataW.trod_int Tryz.underlying2 (hx 2 _ rfl)
    obtain ⟨a3, e3, _, s3⟩ := DataW.trod_string Tryz.underlying9 (hx 3 _ rfl)
    obtain ⟨a4, e4, _, s4⟩ := DataW.trod_int Tryz.underlying2 (hx 4 _ rfl)
    have e0' : List.take (Tryz.prog.cellsOf 3) (List.drop 0 [c0, c1, c2, c3, c4]) = [.int .i64 a0] := e0
    have e1' : List.take (Tryz.prog.cellsOf 3) (List.drop 1 [c0, c1, c2, c3, c4]) = [.int .i64 a1] := e1
    have e2' : List.take (Tryz.prog.cellsOf 2) (List.drop 2 [c0, c1, c2, c3, c4]) = [.int .i64 a2] := e2
    have e3' : List.take (Tryz.prog.cellsOf 9) (List.drop 3 [c0, c1, c2, c3, c4]) = [.string a3] := e3
    have e4' : List.take (Tryz.prog.cellsOf 2) (List.drop 4 [c0, c1, c2, c3, c4]) = [.int .i64 a4] := e4
    rw [q3] at e0' e1'
    rw [q2] at e2' e4'
    rw [q9] at e3'
    have g0 : c0 = .int .i64 a0 := by simpa using e0'
    have g1 : c1 = .int .i64 a1 := by simpa using e1'
    have g2 : c2 = .int .i64 a2 := by simpa using e2'
    have g3 : c3 = .string a3 := by simpa using e3'
    have g4 : c4 = .int .i64 a4 := by simpa using e4'
    subst g0 g1 g2 g3 g4
    refine ⟨⟨a0, a1, a2, a3, a4⟩, rfl, by unfold okN; simp only [maxLen] at s3; omega, ?_⟩
    have hb : -9223372036854775808 ≤ a4 ∧ a4 ≤ 9223372036854775807 := by
      simpa [Lit.wf, IntKind.min, IntKind.max, IntKind.signed, IntKind.bits] using s4
    exact ⟨hb.1, by show a4 < _; omega⟩
set_option maxRecDepth 100000 in
theorem open_evs {r : Reach} {b0 : Nat} {v : Value} {d : DataW H} {p : List MemPlace} (hv : Value.okWide Tryz.prog w r b0 49 v) (h : DataW.Trod enc Tryz.prog w base sp held 49 v d p) : ∃ A c, ∃ l : List Ev, v = .slice A l.length c ∧ RdE w A l ∧ l.length ≤ c ∧ c ≤ 9223372036854775807 := by
  obtain ⟨a0, len0, cap0, rfl⟩ := okWide_slice Tryz.underlying49 hv
  obtain ⟨fuel, hf⟩ := h
  rcases DataW.trod_slice Tryz.underlying49 hf with ⟨h0, _⟩ | ⟨a, len, cap, elems, rest, n1, _, h0, _, _, hlc, hcm, hel, hx, _, _⟩
  · have h0 : Value.slice a0 len0 cap0 = .slice none 0 0 := by simpa [Value.cells] using h0
    rw [h0]
    exact ⟨none, 0, [], rfl, ⟨fun hl => absurd hl (by simp), fun o ho => absurd ho (by simp)⟩, by simp, by simp⟩
  have h0 : Value.slice a0 len0 cap0 = .slice (some a) len cap := by simpa [Value.cells] using h0
  rw [h0]
  rw [q26] at hx
  have each : ∀ i, ∃ o : Ev, i < len → (okN o.key ∧ i64 o.v) ∧ ∀ k, k < 5 → w.cell? (a.add (i * 5 + k)) = (evcells o)[k]? := by
    intro i
    by_cases hi : i < len
    · have h1 := hx i hi
      rw [List.getElem?_eq_getElem (by omega)] at h1
      obtain ⟨cs, hc, ht⟩ := Option.bind_eq_some_iff.1 h1
      obtain ⟨o, rfl, hk⟩ := open_evc ht
      obtain ⟨_, _, hcell⟩ := World.cells?_some hc
      refine ⟨o, fun _ => ⟨hk, fun k hk5 => ?_⟩⟩
      have := hcell k hk5
      rw [← this]
      rw [addr_add_add]
    · exact ⟨⟨0, 0, 0, ByteArray.empty, 0⟩, fun h => absurd h hi⟩
  obtain ⟨q, hq⟩ : ∃ q : Nat → Ev, ∀ i, i < len → (okN (q i).key ∧ i64 (q i).v) ∧ ∀ k, k < 5 → w.cell? (a.add (i * 5 + k)) = (evcells (q i))[k]? := ⟨fun i => Classical.choose (each i), fun i => Classical.choose_spec (each i)⟩
  have hlen : ((List.range len).map q).length = len := by simp
  refine ⟨some a, cap, (List.range len).map q, by rw [hlen], ⟨fun hn => ?_, fun o ho => ?_⟩, by rw [hlen]; exact hlc, by simp only [maxLen] at hcm; omega⟩
  · rw [hlen] at hn
    have p0 := (hq 0 hn).2 0 (by omega)
    have p1 : w.cell? (a.add (0 * 5 + 0)) = some (.int .i64 (q 0).k) := p0
    have hs := World.cell?_spot p1
    obtain ⟨b, off, spt⟩ := a
    have hs : spt = none := by simpa [Addr.add] using hs
    subst hs
    refine ⟨b, off, rfl, World.block_lt_of_cell? w _ p1, fun i hi => ?_⟩
    have hg : ((List.range len).map q)[i] = q i := by simp
    rw [hg]
    rw [hlen] at hi
    have h2 := (hq i hi).2
    have e : ∀ k, (⟨b, off, none⟩ : Addr).add (i * 5 + k) = ⟨b, off + i * 5 + k, none⟩ := fun k => by simp [Addr.add_lit, Nat.add_assoc]
    refine ⟨?_, ?_, ?_, ?_, ?_⟩
    · have := h2 0 (by omega); rw [e] at this; exact this
    · have := h2 1 (by omega); rw [e] at this; exact this
    · have := h2 2 (by omega); rw [e] at this; exact this
    · have := h2 3 (by omega); rw [e] at this; exact this
    · have := h2 4 (by omega); rw [e] at this; exact this
  · obtain ⟨i, hi, rfl⟩ := List.mem_map.1 ho
    exact (hq i (List.mem_range.1 hi)).1
end
theorem gTab : Tryz.prog.globalNamed "internal/strconv.uint64pow10" = some tabG := by
  have h : (Tryz.prog.globalNamed "internal/strconv.uint64pow10").isSome = true := by kernel_rfl
  obtain ⟨g, hg⟩ := Option.isSome_iff_exists.1 h
  unfold tabG
  rw [hg]
  rfl
theorem tab_laid {W : World} (h : laidMetH Tryz.prog laidL W) : Tab W := by
  rw [MakeChecks.laidMetH_plain _ _ _ (by kernel_rfl)] at h
  obtain ⟨ps, ⟨g0, t0, cs0, f0, p0, q0, hg0, ht0, hv0, hd0, ⟨g1, t1, cs1, f1, p1, q1, hg1, ht1, hv1, hd1, ⟨g2, t2, cs2, f2, p2, q2, hg2, ht2, hv2, hd2, _, _⟩, _⟩, _⟩, _, _⟩ := h
  have e : (Rows.laid_internal_strconv_uint64pow10 : DataW Unit) = Lib.tabData .u64 Lib.pow10Tab := by kernel_rfl
  have e0 : Tryz.prog.globalNamed "internal/strconv.uint64pow10" = some 0 := by kernel_rfl
  obtain rfl := Option.some.inj (e0.symm.trans hg2)
  have e1 : (Tryz.prog.globals[0]?).map (·.type) = some 243 := by kernel_rfl
  obtain rfl := Option.some.inj (e1.symm.trans ht2)
  rw [e] at hd2
  have hc := Lib.cells_of_tab Tryz.underlying243 Tryz.underlying188 (by kernel_rfl) (by kernel_rfl) hd2
  unfold Tab Lib.TabIs
  rw [hv2]
  congr 1
  rw [← hc]
end Go.Proofs.YtfojblbnhapedaaGreatDoor
