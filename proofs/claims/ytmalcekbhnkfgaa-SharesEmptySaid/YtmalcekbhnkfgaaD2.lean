/- Points in memory of one's own; contract of shares.own. Conditions: as each theorem states them. -/
import Derived.Test.YtmalcekbhnkfgaaD1
namespace Go.Proofs.Ytmalcekbhnkfgaa
open Go.RowKit Go.Maps
set_option linter.unusedVariables false
set_option linter.unusedSimpArgs false

theorem own_kw {w w' : World} {S : Nat → Prop} {B n sz : Nat} {e : TypeId} {v : Value} {xs : List Value} (h : w.ownsRow B e sz v n xs) (k : Kw S w w') (hS : ∀ b, v.ownBlock = some b → ¬ S b) : w'.ownsRow B e sz v n xs := by
  refine ⟨h.1, ?_⟩
  rcases h.2 with h0 | ⟨g, c, cur, rfl, hb, hg, h1⟩
  · exact .inl h0
  · exact .inr ⟨g, c, cur, rfl, hb, (k.block g (Array.getElem?_eq_some_iff.1 hg).1 (hS g rfl)).trans hg, h1⟩
/-- A row of points, in block g. -/
def RowP (w : World) (g n : Nat) (z : Nat → Pt) : Prop := g < w.heap.size ∧ ∀ i, i < n → w.cell? ⟨g, i * 2, none⟩ = some (.int .u64 (z i).id) ∧ w.cell? ⟨g, i * 2 + 1, none⟩ = some (.slice (z i).A (z i).fs.length (z i).c) ∧ w.frozen? ⟨g, i * 2 + 1, none⟩ = false
theorem RowP.kw {w w' : World} {S : Nat → Prop} {g n : Nat} {z : Nat → Pt} (h : RowP w g n z) (k : Kw S w w') (hS : ¬ S g) : RowP w' g n z :=
  ⟨Nat.lt_of_lt_of_le h.1 k.size, fun i hi => ⟨(k.cell h.1 hS).trans (h.2 i hi).1, (k.cell h.1 hS).trans (h.2 i hi).2.1, (k.frozen h.1 hS).trans (h.2 i hi).2.2⟩⟩
theorem RowP.of_own {w : World} {B n g c n' : Nat} {l : List Pt} (h : w.ownsRow B 26 2 (.slice (some ⟨g, 0, none⟩) n' c) n (pcells l)) (hl : l.length = n) (hg : g < w.heap.size) : RowP w g n (fun i => l.getD i zeroP) :=
  ⟨hg, fun i hi => by
    obtain ⟨d0, d1⟩ := pcells_get l i (by omega)
    exact ⟨(own_cell h _ _ d0).1, (own_cell h _ _ d1).1, (own_cell h _ _ d1).2⟩⟩
theorem RowP.set {w : World} {g n : Nat} {z : Nat → Pt} (h : RowP w g n z) {i : Nat} (hi : i < n) (p : Pt) (hp : p.id = (z i).id) : RowP (w.setCell ⟨g, i * 2 + 1, none⟩ (.slice p.A p.fs.length p.c)) g n (fun j => if j = i then p else z j) := by
  refine ⟨by simpa [World.setCell] using h.1, fun j hj => ?_⟩
  obtain ⟨a0, a1, a2⟩ := h.2 j hj
  have hf : (w.setCell ⟨g, i * 2 + 1, none⟩ (.slice p.A p.fs.length p.c)).frozen? ⟨g, j * 2 + 1, none⟩ = false := by rw [World.frozen?_setCell]; exact a2
  by_cases hji : j = i
  · subst hji
    simp only [if_true]
    refine ⟨?_, ?_, hf⟩
    · rw [cell_other _ _ _ _ _ (by omega), a0, hp]
    · exact World.cell?_setCell_same _ _ _ a1
  · simp only [if_neg hji]
    refine ⟨?_, ?_, hf⟩
    · rw [cell_other _ _ _ _ _ (by omega), a0]
    · rw [cell_other _ _ _ _ _ (by omega), a1]
/-- A point's files stand in a row of one's own, not in block g. -/
def FreP (w : World) (B g : Nat) (p : Pt) : Prop := w.ownsRow B 36 4 (.slice p.A p.fs.length p.c) p.fs.length (scells p.fs) ∧ ∀ a, p.A = some a → a.block ≠ g
theorem FreP.kw {w w' : World} {S : Nat → Prop} {B g : Nat} {p : Pt} (h : FreP w B g p) (k : Kw S w w') (hS : ∀ a, p.A = some a → ¬ S a.block) : FreP w' B g p :=
  ⟨own_kw h.1 k (fun b hb => by
    cases hA : p.A with
    | none => rw [hA] at hb; cases hb
    | some a => rw [hA] at hb; cases hb; exact hS a hA), h.2⟩
theorem FreP.rd {w : World} {B g : Nat} {p : Pt} (h : FreP w B g p) : RdS w w.heap.size p.A p.fs ∧ p.fs.length ≤ p.c := by
  rcases own_form h.1 with ⟨e, h0⟩ | ⟨g', c, e, hc, hB, hg⟩
  · exact ⟨fun hl => by omega, by omega⟩
  · simp only [Value.slice.injEq] at e
    obtain ⟨e1, _, e2⟩ := e
    refine ⟨fun hl => ⟨g', 0, e1, hg, Nat.le_refl _, fun i hi => ?_⟩, by rw [e2]; exact hc⟩
    have h1 := h.1
    rw [e1] at h1
    obtain ⟨d0, d1, d2, d3⟩ := scells_get p.fs i hi
    rw [Nat.zero_add]
    exact ⟨(own_cell h1 _ _ d0).1, (own_cell h1 _ _ d1).1, (own_cell h1 _ _ d2).1, (own_cell h1 _ _ d3).1⟩
/-- Points in memory of one's own. -/
def OwnP (w : World) (B : Nat) (A : Option Addr) (l : List Pt) : Prop :=
  0 < l.length → ∃ g, A = some ⟨g, 0, none⟩ ∧ B ≤ g ∧ RowP w g l.length (fun i => l.getD i zeroP) ∧ ∀ p ∈ l, FreP w B g p
theorem OwnP.rd {w : World} {B : Nat} {A : Option Addr} {l : List Pt} (h : OwnP w B A l) : RdP w w.heap.size A l := by
  refine ⟨fun hl => ?_, fun p hp => ?_⟩
  · obtain ⟨g, rfl, _, hr, _⟩ := h hl
    refine ⟨g, 0, rfl, hr.1, Nat.le_refl _, fun i hi => ?_⟩
    obtain ⟨a0, a1, _⟩ := hr.2 i hi
    rw [Nat.zero_add]
    exact ⟨a0, a1⟩
  · obtain ⟨g, _, _, _, hf⟩ := h (List.length_pos_of_mem hp)
    exact (hf p hp).rd
/-- Two lists of points are the same, but for where the files stand. -/
def sameP (l' l : List Pt) : Prop := l'.length = l.length ∧ ∀ i, i < l.length → (l'.getD i zeroP).id = (l.getD i zeroP).id ∧ (l'.getD i zeroP).fs = (l.getD i zeroP).fs
theorem getD_map_range (z : Nat → Pt) {n i : Nat} (h : i < n) : ((List.range n).map z).getD i zeroP = z i := by
  rw [List.getD_eq_getElem?_getD, List.getElem?_map, List.getElem?_range h]
  rfl
set_option maxRecDepth 100000 in
set_option maxHeartbeats 2000000 in
theorem own_any (A : Option Addr) (c n : Nat) (l : List Pt) (w : World) (hl : l.length = n) (hA : RdP w w.heap.size A l) (hn : n ≤ 1000000) (hf : ∀ p ∈ l, p.fs.length ≤ 1000000) :
    Calls Try.prog 31 #[.slice A n c] w fun e w' => ∃ A' c' l', e = .returned (.slice A' n c') ∧ sameP l' l ∧ OwnP w' w.heap.size A' l' ∧ Below w.heap.size w w' := by
  have HA := Lib.hid hA
  have HL := Lib.hid hl
  have HF := Lib.hid hf
  clear hA hl hf
  go_enter Try.func31, Try.ntmps31
  go_wp2_with (fail)
  refine (cloneP_any A n c w.heap.size l w HL.out HA.out hn).mono ?_
  rintro e w1 ⟨v, rfl, hown, hb1⟩
  have HO := Lib.hid hown
  have hs1 := hb1.size
  have HB1 := Lib.hid hb1
  rcases own_form hown with ⟨rfl, h0⟩ | ⟨g, cap, rfl, hcap, hBg, hg⟩
  · subst h0
    clear hown hb1
    go_wp2_with (fail)
    go_loopw [9] (fun vi wr => vi = .int .i64 0 ∧ w1 = wr) (fun _ _ => 0)
    case atStart => exact ⟨rfl, rfl⟩
    case round =>
      obtain ⟨rfl, rfl⟩ := hrel
      go_wp2_with (fail)
      go_ret
      exact ⟨none, 0, [], rfl, ⟨by rw [HL.out]; rfl, fun i hi => by rw [HL.out] at hi; omega⟩, fun h => by simp at h, HB1.out⟩
  · have hrow := RowP.of_own hown HL.out hg
    have HR := Lib.hid hrow
    clear hown hb1 hrow
    go_wp2_with (fail)
    go_loopw [9] (fun vi wr => ∃ (i : Nat) (z : Nat → Pt), i ≤ n ∧ vi = .int .i64 i ∧ RowP wr g n z ∧ (∀ j, j < n → (z j).id = (l.getD j zeroP).id ∧ (z j).fs = (l.getD j zeroP).fs) ∧ (∀ j, j < i → FreP wr w.heap.size g (z j)) ∧ (∀ j, i ≤ j → z j = l.getD j zeroP) ∧ Below w.heap.size w wr) (fun i _ => n - (intOf i).toNat)
    case atStart => exact ⟨0, fun i => l.getD i zeroP, Nat.zero_le _, rfl, HR.out, fun j _ => ⟨rfl, rfl⟩, fun j hj => by omega, fun j _ => rfl, HB1.out⟩
    case round =>
      obtain ⟨i, z, hin, rfl, hr, hid, hfr, hrest, hbl⟩ := hrel
      have HRW := Lib.hid hr
      have HID := Lib.hid hid
      have HFR := Lib.hid hfr
      have HRS := Lib.hid hrest
      have HBL := Lib.hid hbl
      have hws := hbl.size
      by_cases hi : i < n
      · have hi0 : (0 : Int) ≤ (i : Int) := by omega
        have hi1 : (i : Int) < (n : Int) := by omega
        have hzi := hrest i (Nat.le_refl _)
        have hpm : l.getD i zeroP ∈ l := getP_mem (by rw [HL.out]; exact hi)
        obtain ⟨hps, hpc⟩ := HA.out.2 _ hpm
        have hp1 := HF.out _ hpm
        obtain ⟨p, hp⟩ : ∃ p, l.getD i zeroP = p := ⟨_, rfl⟩
        rw [hp] at hzi hps hpc hp1
        obtain ⟨_, a1, a2⟩ := hr.2 i hi
        have hgw := hr.1
        rw [hzi] at a1
        have HP := Lib.hid hp
        have HZI := Lib.hid hzi
        obtain ⟨pid, fs, PA, pc⟩ := p
        dsimp only at *
        obtain ⟨m, hm⟩ : ∃ m, fs.length = m := ⟨_, rfl⟩
        rw [hm] at a1 hpc hp1
        have HM := Lib.hid hm
        have HPS := Lib.hid (hps.below (HBL.out))
        clear hr hid hfr hrest hbl hpm hps hp hzi hm
        go_wp2_with ((go_at_call 45; refine Hid.out ?_))
        refine Lib.hid ?_
        refine (cloneS_any PA m pc w.heap.size fs wr HM.out HPS.out hp1).mono ?_
        rintro e w2 ⟨vs, rfl, hown2, hb2⟩
        have hs2 := hb2.size
        obtain ⟨A2, c2, rfl, hA2⟩ : ∃ A2 c2, vs = .slice A2 m c2 ∧ ∀ a, A2 = some a → wr.heap.size ≤ a.block := by
          rcases own_form hown2 with ⟨rfl, h0⟩ | ⟨g2, c2, rfl, _, hB2, _⟩
          · exact ⟨none, 0, by rw [h0], fun a h => by cases h⟩
          · exact ⟨_, c2, rfl, fun a h => by cases h; exact hB2⟩
        have k2 : Kw (fun _ => False) wr w2 := Kw.ofBelow hb2
        have hrw2 := HRW.out.kw k2 (fun h => h)
        have a2' := (hrw2.2 i hi).2.2
        have a1' := (hrw2.2 i hi).2.1
        rw [HZI.out] at a1'
        dsimp only at a1'
        have hg2 := hrw2.1
        have hset := hrw2.set hi ⟨pid, fs, A2, c2⟩ (by rw [HZI.out])
        dsimp only at hset
        rw [HM.out] at hset a1'
        have kS : Kw (fun b => b = g) wr (w2.setCell ⟨g, i * 2 + 1, none⟩ (.slice A2 m c2)) := Kw.setCell (S := fun b => b = g) (p := ⟨g, i * 2 + 1, none⟩) (k2.mono (fun b _ h => False.elim h)) rfl _
        have HS2 : Hid (RowP (w2.setCell ⟨g, i * 2 + 1, none⟩ (.slice A2 m c2)) g n (fun j => if j = i then ⟨pid, fs, A2, c2⟩ else z j)) := Lib.hid hset
        have HB2 : Hid (Below w.heap.size w (w2.setCell ⟨g, i * 2 + 1, none⟩ (.slice A2 m c2))) := Lib.hid ((HBL.out.trans (hb2.mono hws)).setCell hBg _)
        have HF2 : Hid (∀ j, j < i + 1 → FreP (w2.setCell ⟨g, i * 2 + 1, none⟩ (.slice A2 m c2)) w.heap.size g (if j = i then ⟨pid, fs, A2, c2⟩ else z j)) := Lib.hid (fun j hj => by
          by_cases hji : j = i
          · rw [if_pos hji]
            have h1 : FreP w2 w.heap.size g ⟨pid, fs, A2, c2⟩ := ⟨own_le (by rw [HM.out]; exact hown2) hws, fun a ha => by have := hA2 a ha; omega⟩
            exact h1.kw (Kw.setCell (S := fun b => b = g) (p := ⟨g, i * 2 + 1, none⟩) (Kw.refl _ w2) rfl _) (fun a ha => by have := hA2 a ha; omega)
          · rw [if_neg hji]
            exact (HFR.out j (by omega)).kw kS (fun a ha => (HFR.out j (by omega)).2 a ha))
        have HI2 : Hid (∀ j, j < n → (if j = i then (⟨pid, fs, A2, c2⟩ : Pt) else z j).id = (l.getD j zeroP).id ∧ (if j = i then (⟨pid, fs, A2, c2⟩ : Pt) else z j).fs = (l.getD j zeroP).fs) := Lib.hid (fun j hj => by
          by_cases hji : j = i
          · rw [if_pos hji, hji, HP.out]
            exact ⟨rfl, rfl⟩
          · rw [if_neg hji]
            exact HID.out j hj)
        have HR2 : Hid (∀ j, i + 1 ≤ j → (if j = i then (⟨pid, fs, A2, c2⟩ : Pt) else z j) = l.getD j zeroP) := Lib.hid (fun j hj => by
          rw [if_neg (by omega)]
          exact HRS.out j (by omega))
        clear hown2 hb2 hA2 k2 hrw2 hset kS a1 a2
        go_wp2_with (fail)
        go_roundw
        case rel => exact ⟨i + 1, _, by omega, by first | rfl | (push_cast; rfl) | go_num, HS2.out, HI2.out, HF2.out, HR2.out, HB2.out⟩
        case measure => simp [intOf]; omega
      · have hine : i = n := by omega
        subst hine
        have hirr : ¬ (i : Int) < (i : Int) := by omega
        clear hr hid hfr hrest hbl
        go_wp2_with (fail)
        go_ret
        refine ⟨_, ⟨_, rfl⟩, (List.range i).map z, ⟨by simp [HL.out], fun j hj => ?_⟩, fun hl0 => ⟨g, rfl, hBg, ?_, fun p hp => ?_⟩, HBL.out⟩
        · rw [getD_map_range z (by rw [← HL.out]; exact hj)]
          exact HID.out j (by rw [← HL.out]; exact hj)
        · rw [List.length_map, List.length_range]
          exact ⟨HRW.out.1, fun j hj => by have h := HRW.out.2 j hj; rw [← getD_map_range z hj] at h; exact h⟩
        · obtain ⟨j, hj, rfl⟩ := List.mem_map.1 hp
          exact HFR.out j (List.mem_range.1 hj)
end Go.Proofs.Ytmalcekbhnkfgaa
