/- The contract of awake. Conditions: as each theorem states them. -/
import Derived.Test.YtlmnnbmihimedaaE0
namespace Go.Proofs.Ytlmnnbmihimedaa
open Go.RowKit Go.Maps
set_option linter.unusedVariables false
set_option linter.unusedSimpArgs false

theorem due_filter {T out rest : List Tm} {upto : Int} (h : (out ++ rest).Perm T) (h1 : ∀ x ∈ out, x.t ≤ upto) (h2 : ∀ x ∈ rest, upto < x.t) : out.Perm (T.filter (fun x => decide (x.t ≤ upto))) ∧ rest.Perm (T.filter (fun x => decide (upto < x.t))) := by
  constructor
  · have := h.filter (fun x => decide (x.t ≤ upto))
    rw [List.filter_append, List.filter_eq_self.2 (fun x hx => by simpa using h1 x hx), List.filter_eq_nil_iff.2 (fun x hx => by have := h2 x hx; simp; omega), List.append_nil] at this
    exact this
  · have := h.filter (fun x => decide (upto < x.t))
    rw [List.filter_append, List.filter_eq_nil_iff.2 (fun x hx => by have := h1 x hx; simp; omega), List.filter_eq_self.2 (fun x hx => by simpa using h2 x hx), List.nil_append] at this
    exact this
def xb : Tm := ⟨5, ⟨#[98]⟩, ⟨#[]⟩⟩
def xz : Tm := ⟨3, ⟨#[122]⟩, ⟨#[]⟩⟩
def xa : Tm := ⟨5, ⟨#[97]⟩, ⟨#[]⟩⟩
theorem cb : chkT xb = 0 := by decide
theorem cz : chkT xz = 0 := by decide
theorem ca : chkT xa = 0 := by decide
theorem zb : xz ≠ xb := by intro h; have := congrArg Tm.t h; simp [xz, xb] at this
theorem ab : xa ≠ xb := by intro h; have := congrArg Tm.k h; simp [xa, xb] at this
theorem az : xa ≠ xz := by intro h; have := congrArg Tm.t h; simp [xa, xz] at this
theorem put1 : putR [] xb = 0 := by unfold putR; simp [cb]
theorem put2 : putR [xb] xz = 0 := by unfold putR; simp [cz, zb]
theorem put3 : putR [xz, xb] xa = 0 := by unfold putR; simp [ca, ab, az]
theorem a_lt_b : ltT xa xb := by
  refine .inr ⟨rfl, .inl ?_⟩
  rw [toL, toL]
  decide
theorem row_cells {w : World} {B n : Nat} {v : Value} {l : List Tm} (h : w.ownsRow B 23 3 v n (tcells l)) (hl : l.length = n) (hn : 0 < n) : ∃ g c, v = .slice (some ⟨g, 0, none⟩) n c ∧ B ≤ g ∧ g < w.heap.size ∧ n ≤ c ∧ ∀ i u, (tcells l)[i]? = some u → w.cell? ⟨g, i, none⟩ = some u := by
  rcases h.2 with ⟨_, h0⟩ | ⟨g, c, cur, hv, hb, hg, hnc, hcm, hs, ht⟩
  · omega
  · refine ⟨g, c, hv, hb, (Array.getElem?_eq_some_iff.1 hg).1, hnc, fun i u hu => ?_⟩
    rw [← ht] at hu
    rw [List.getElem?_take] at hu
    split at hu
    · simp only [World.cell?, hg]
      simpa using hu
    · cases hu
set_option maxRecDepth 100000 in
set_option maxHeartbeats 2000000 in
theorem awake_any (w : World) : Calls Try.prog 15 #[] w fun e w' => e = .returned (.bool true) ∧ Below w.heap.size w w' := by
  go_enter Try.func15, Try.ntmps15
  go_wp2_with (fail)
  refine (newL w).mono ?_
  rintro e w1 ⟨rfl, hq1, hb1⟩
  have hs1 := hb1.size
  have HQ1 := Lib.hid hq1
  clear hq1
  go_wp2_with (fail)
  refine (putL w.heap.size (w.heap.size + 1) w.heap.size [] (fun b => w.heap.size ≤ b) xb w1 HQ1.out hs1 (fun b hb => by omega)).mono ?_
  rintro e w2 ⟨rfl, hq2, hk2⟩
  have HQ2 := Lib.hid hq2
  have HK2 := Lib.hid hk2
  have hs2 := hk2.size
  clear hq2 hk2
  rw [put1]
  go_wp2_with (fail)
  refine (putL w.heap.size (w.heap.size + 1) w.heap.size _ (fun b => w.heap.size ≤ b) xz w2 HQ2.out (by omega) (fun b hb => by omega)).mono ?_
  rintro e w3 ⟨rfl, hq3, hk3⟩
  have e1 : putT [] xb = [xb] := by unfold putT; rw [put1]; simp
  rw [e1] at hq3 ⊢
  have HQ3 := Lib.hid hq3
  have HK3 := Lib.hid hk3
  have hs3 := hk3.size
  clear hq3 hk3 e1
  rw [put2]
  go_wp2_with (fail)
  refine (putL w.heap.size (w.heap.size + 1) w.heap.size _ (fun b => w.heap.size ≤ b) xa w3 HQ3.out (by omega) (fun b hb => by omega)).mono ?_
  rintro e w4 ⟨rfl, hq4, hk4⟩
  have e2 : putT [xb] xz = [xz, xb] := by unfold putT; rw [put2]; simp
  rw [e2] at hq4 ⊢
  have e3 : putT [xz, xb] xa = [xa, xz, xb] := by unfold putT; rw [put3]; simp
  rw [e3] at hq4
  have HQ4 := Lib.hid hq4
  have HK4 := Lib.hid hk4
  have hs4 := hk4.size
  clear hq4 hk4 e2 e3
  rw [put3]
  go_wp2_with (fail)
  refine (dueL w.heap.size (w.heap.size + 1) w.heap.size _ (fun b => w.heap.size ≤ b) 4 w4 HQ4.out (by omega)).mono ?_
  rintro e w5 ⟨vo, out, rest, rfl, hown, hp, h1, h2, h3, hq5, hk5⟩
  obtain ⟨p1, p2⟩ := due_filter hp h1 h2
  have f1 : [xa, xz, xb].filter (fun x => decide (x.t ≤ 4)) = [xz] := by simp [xa, xz, xb]
  have f2 : [xa, xz, xb].filter (fun x => decide ((4 : Int) < x.t)) = [xa, xb] := by simp [xa, xz, xb]
  rw [f1] at p1
  rw [f2] at p2
  obtain rfl := List.perm_singleton.1 p1
  have hq5 := hq5.perm p2
  obtain ⟨g, c, rfl, hgB, hgl, hc, hcell⟩ := row_cells hown rfl (by simp)
  have hg1 : w5.cell? ⟨g, 1, none⟩ = some (.string ⟨#[122]⟩) := hcell 1 _ rfl
  have HQ5 := Lib.hid hq5
  have HK5 := Lib.hid hk5
  have hs5 := hk5.size
  clear hown hp h1 h2 h3 hq5 hk5 p1 p2 f1 f2 hcell
  go_wp2_with (fail)
  refine (nextL w.heap.size (w.heap.size + 1) w.heap.size _ (fun b => w.heap.size ≤ b) w5 HQ5.out (by simp)).mono ?_
  rintro e w6 ⟨x, hx, hl, rfl, hb6⟩
  have hxa : x = xa := by
    rcases List.mem_cons.1 hx with h | h
    · exact h
    · obtain rfl : x = xb := by simpa using h
      have := hl xa (by simp)
      rcases this with h | h
      · exact absurd (ltT_trans h a_lt_b) (ltT_irrefl _)
      · exact h
  subst hxa
  have hg6 : w6.cell? ⟨g, 1, none⟩ = some (.string ⟨#[122]⟩) := (hb6.cell (p := ⟨g, 1, none⟩) hgl).trans hg1
  have hs6 := hb6.size
  have hgl6 : g < w6.heap.size := by omega
  have HB6 := Lib.hid hb6
  have hql6 : w.heap.size + 1 < w6.heap.size := by have := HQ5.out.lt; omega
  clear hx hl hb6 hg1
  unfold tmV xa
  dsimp only
  go_wp2_with (fail)
  refine (lenL w.heap.size (w.heap.size + 1) w.heap.size _ (fun b => w.heap.size ≤ b) _ ((HQ5.out.below HB6.out).below (bl_alloc (Below.refl _ _) _))).mono ?_
  rintro e w7 ⟨rfl, rfl⟩
  go_wp2_with (fail)
  go_ret
  refine ⟨rfl, ?_⟩
  have k1 : Kw (fun b => w.heap.size ≤ b) w w6 := ((((((Kw.ofBelow hb1).trans HK2.out).trans HK3.out).trans HK4.out).trans HK5.out).trans (Kw.ofBelow HB6.out))
  exact (k1.alloc _).below (Nat.le_refl _) (fun b h => h)
end Go.Proofs.Ytlmnnbmihimedaa
