/- What holds of every model's open windows, and stays. Conditions: as each theorem states them. -/
import Derived.Test.YtfojblbnhapedaaGreatDoorP8
import Derived.Test.YtfojblbnhapedaaGreatDoorI1
namespace Go.Proofs.YtfojblbnhapedaaGreatDoor
open Go.RowKit Go.Maps
set_option linter.unusedVariables false
set_option linter.unusedSimpArgs false

def kindOf (j : Jb) (o : Int) : Int := (j.ops.getD o.toNat zeroP).k
def sizeOfW (j : Jb) (o : Int) : Int := (j.ops.getD o.toNat zeroP).s
/-- A place that may be. -/
structure PnOk (j : Jb) (p : Pl) : Prop where
  op : ∃ i : Nat, i < j.ops.length ∧ p.op = i
  key : p.key.size ≤ 64
  may : mayB (p.f, p.t) = true
  len : kindOf j p.op ≠ 3 → p.t = p.f + sizeOfW j p.op
def i64 (x : Int) : Prop := -9223372036854775808 ≤ x ∧ x < 9223372036854775808
structure GoodL (j : Jb) (L : PL) : Prop where
  nd : ND L
  pn : ∀ y ∈ L, PnOk j y.1
  ss : ∀ y ∈ L, ∀ z ∈ L, kindOf j y.1.op = 3 → y.1.op = z.1.op → y.1.key = z.1.key → y.1 = z.1 ∨ y.1.t < z.1.f ∨ z.1.t < y.1.f
  vs : ∀ y ∈ L, y.2 ≠ [] ∧ ∀ x ∈ y.2, i64 x
theorem GoodL.sub {j : Jb} {L L' : PL} (h : GoodL j L) (hnd : ND L') (hs : ∀ y ∈ L', y ∈ L) : GoodL j L' :=
  ⟨hnd, fun y hy => h.pn y (hs y hy), fun y hy z hz => h.ss y (hs y hy) z (hs z hz), fun y hy => h.vs y (hs y hy)⟩
theorem strike1_mem {L : PL} {p : Pl} {y : Pl × List Int} : y ∈ strike1 L p ↔ y ∈ L ∧ y.1 ≠ p := by
  unfold strike1
  rw [List.mem_filter]
  simp
theorem GoodL.put {j : Jb} {L : PL} (h : GoodL j L) {p : Pl} (hp : PnOk j p) (hs : kindOf j p.op = 3 → ∀ y ∈ L, y.1.op = p.op → y.1.key = p.key → y.1 = p ∨ y.1.t < p.f ∨ p.t < y.1.f) {v : List Int} (hv : v ≠ []) (hv2 : ∀ x ∈ v, i64 x) : GoodL j (strike1 L p ++ [(p, v)]) := by
  have hm : ∀ y ∈ strike1 L p ++ [(p, v)], (y ∈ L ∧ y.1 ≠ p) ∨ y = (p, v) := fun y hy => by
    rcases List.mem_append.1 hy with hy | hy
    · exact .inl (strike1_mem.1 hy)
    · exact .inr (List.mem_singleton.1 hy)
  refine ⟨nd_put p v h.nd, fun y hy => ?_, fun y hy z hz hk h1 h2 => ?_, fun y hy => ?_⟩
  · rcases hm y hy with ⟨h1, _⟩ | rfl
    · exact h.pn y h1
    · exact hp
  · rcases hm y hy with ⟨hy, _⟩ | rfl
    · rcases hm z hz with ⟨hz, _⟩ | rfl
      · exact h.ss y hy z hz hk h1 h2
      · exact hs (by rw [← h1]; exact hk) y hy h1 h2
    · rcases hm z hz with ⟨hz, _⟩ | rfl
      · rcases hs hk z hz h1.symm h2.symm with e | e | e
        · exact .inl e.symm
        · exact .inr (.inr e)
        · exact .inr (.inl e)
      · exact .inl rfl
  · rcases hm y hy with ⟨h1, _⟩ | rfl
    · exact h.vs y h1
    · exact ⟨hv, hv2⟩
/-- The values of windows that go into one stay values. -/
theorem val1_mem {L : PL} {p : Pl} {x : Int} (h : x ∈ val1 L p) : ∃ y ∈ L, x ∈ y.2 := by
  unfold val1 at h
  split at h
  · rename_i y hy
    exact ⟨y, List.mem_of_find?_eq_some hy, h⟩
  · cases h
theorem takeF_mem (L : PL) (c : Chg) : ∀ n, n ≤ c.ws.length → (∀ y ∈ (takeF L c n).1, y ∈ L ∧ ∀ w ∈ c.ws.take n, y.1 ≠ ⟨c.p.op, c.p.key, w.1, w.2⟩) ∧ ∀ x ∈ (takeF L c n).2, ∃ y ∈ L, x ∈ y.2
  | 0, _ => ⟨fun y hy => ⟨hy, fun w hw => by cases hw⟩, fun x hx => by cases hx⟩
  | n + 1, h => by
    obtain ⟨h1, h2⟩ := takeF_mem L c n (by omega)
    rw [takeF_succ L c n (by omega)]
    unfold takeC
    refine ⟨fun y hy => ?_, fun x hx => ?_⟩
    · obtain ⟨hy, hne⟩ := strike1_mem.1 hy
      obtain ⟨a, b⟩ := h1 y hy
      refine ⟨a, fun w hw => ?_⟩
      rw [List.take_succ_eq_append_getElem (by omega)] at hw
      rcases List.mem_append.1 hw with hw | hw
      · exact b w hw
      · rw [List.mem_singleton.1 hw]; exact hne
    · rcases List.mem_append.1 hx with hx | hx
      · exact h2 x hx
      · obtain ⟨y, hy, hxy⟩ := val1_mem hx
        exact ⟨y, (h1 y hy).1, hxy⟩
/-- A change that may be made. -/
structure CgOk (j : Jb) (L : PL) (c : Chg) : Prop where
  pn : PnOk j c.p
  ss : kindOf j c.p.op = 3 → ∀ y ∈ L, y.1.op = c.p.op → y.1.key = c.p.key → (y.1.f, y.1.t) ∈ c.ws ∨ y.1.t < c.p.f ∨ c.p.t < y.1.f
theorem GoodL.apply {j : Jb} {L : PL} (h : GoodL j L) {c : Chg} (hc : CgOk j L c) {x : Int} (hx : i64 x) : GoodL j (applyC L c x).1 := by
  obtain ⟨h1, h2⟩ := takeF_mem L c c.ws.length (Nat.le_refl _)
  rw [List.take_length] at h1
  refine GoodL.put (h.sub (nd_take c h.nd _ (Nat.le_refl _)) (fun y hy => (h1 y hy).1)) hc.pn (fun hk y hy e1 e2 => ?_) (by simp) (fun z hz => ?_)
  · obtain ⟨hyL, hno⟩ := h1 y hy
    rcases hc.ss hk y hyL e1 e2 with e | e
    · exact absurd (by rw [← e1, ← e2]) (hno _ e)
    · exact .inr e
  · rcases List.mem_append.1 hz with hz | hz
    · obtain ⟨y, hy, hzy⟩ := h2 z hz
      exact (h.vs y hy).2 z hzy
    · rw [List.mem_singleton.1 hz]; exact hx
theorem applyC_mem {L : PL} {c : Chg} {x : Int} {y : Pl × List Int} (h : y ∈ (applyC L c x).1) : y ∈ L ∨ y = (c.p, (applyC L c x).2) := by
  unfold applyC at h ⊢
  rcases List.mem_append.1 h with h | h
  · exact .inl ((takeF_mem L c c.ws.length (Nat.le_refl _)).1 y (strike1_mem.1 h).1).1
  · exact .inr (List.mem_singleton.1 h)
theorem recF_mem (was x : Int) (l : List Chg) (L : PL) : ∀ n, n ≤ l.length → ∀ y ∈ (recF was x (l.take n) L).1, y ∈ L ∨ ∃ (k : Nat) (hk : k < l.length), k < n ∧ y.1 = (l[k]).p
  | 0, _, y, hy => .inl hy
  | n + 1, h, y, hy => by
    rw [recF_take was x l L n (by omega)] at hy
    rcases applyC_mem hy with hy | rfl
    · rcases recF_mem was x l L n (by omega) y hy with h1 | ⟨k, hk, h1, h2⟩
      · exact .inl h1
      · exact .inr ⟨k, hk, by omega, h2⟩
    · exact .inr ⟨n, by omega, by omega, rfl⟩
/-- All changes of a record are made. -/
theorem GoodL.recs {j : Jb} {L : PL} (h : GoodL j L) {l : List Chg} {was x : Int} (hx : i64 x) (hl : ∀ c ∈ l, CgOk j L c) (hu : l.Pairwise fun a b => kindOf j b.p.op = 3 → a.p.op ≠ b.p.op) : ∀ n, n ≤ l.length → GoodL j (recF was x (l.take n) L).1
  | 0, _ => h
  | n + 1, hn => by
    have ih := h.recs (was := was) hx hl hu n (by omega)
    rw [recF_take was x l L n (by omega)]
    have hc := hl l[n] (List.getElem_mem _)
    refine ih.apply ⟨hc.pn, fun hk y hy e1 e2 => ?_⟩ hx
    rcases recF_mem was x l L n (by omega) y hy with h1 | ⟨k, hkl, h1, h2⟩
    · exact hc.ss hk y h1 e1 e2
    · have := List.pairwise_iff_getElem.1 hu k n hkl (by omega) h1 hk
      exact absurd (by rw [← h2, e1]) this
/-- The outputs' values. -/
theorem recF_out (was x : Int) (l : List Chg) (L : PL) : ∀ n, n ≤ l.length → ∀ o ∈ (recF was x (l.take n) L).2, ∃ (k : Nat) (hk : k < l.length), k < n ∧ o = ((l[k]).p, (applyC (recF was x (l.take k) L).1 l[k] x).2) ∧ (l[k]).p.t - 1 ≤ was
  | 0, _, o, ho => by cases ho
  | n + 1, h, o, ho => by
    rw [recF_take was x l L n (by omega)] at ho
    unfold recS at ho
    rcases List.mem_append.1 ho with ho | ho
    · obtain ⟨k, hk, h1, h2, h3⟩ := recF_out was x l L n (by omega) o ho
      exact ⟨k, hk, by omega, h2, h3⟩
    · split at ho
      · rename_i hd
        exact ⟨n, by omega, by omega, List.mem_singleton.1 ho, hd⟩
      · cases ho
theorem passL_nd {late now : Int} {L : PL} (h : ND L) : ND (passL late now L) := h.sublist ((List.filter_sublist (p := fun y : Pl × List Int => !goneB late now y.1) (l := L)).map _)
theorem GoodL.pass {j : Jb} {L : PL} (h : GoodL j L) (late now : Int) : GoodL j (passL late now L) := h.sub (passL_nd h.nd) (fun y hy => (List.mem_filter.1 hy).1)
theorem tot_pass (late now : Int) : ∀ L : PL, tot (passL late now L) ≤ tot L
  | [] => Nat.le_refl _
  | y :: L => by
    have ih := tot_pass late now L
    unfold passL tot at *
    rw [List.filter_cons]
    split <;> simp at * <;> omega
theorem val1_at {L : PL} (hn : ND L) {y : Pl × List Int} (hy : y ∈ L) : val1 L y.1 = y.2 := by
  unfold val1
  cases hl : L.find? (fun z => decide (z.1 = y.1)) with
  | none =>
    have := List.find?_eq_none.1 hl y hy
    simp at this
  | some z =>
    have h1 := List.mem_of_find?_eq_some hl
    have h2 : z.1 = y.1 := by simpa using List.find?_some hl
    have h3 : z = y := by
      unfold ND at hn
      obtain ⟨i, hi, rfl⟩ := List.mem_iff_getElem.1 h1
      obtain ⟨k, hk, rfl⟩ := List.mem_iff_getElem.1 hy
      have := List.pairwise_iff_getElem.1 hn
      rcases Nat.lt_trichotomy i k with h | h | h
      · exact absurd (by rw [List.getElem_map, List.getElem_map]; exact h2) (this i k (by simpa using hi) (by simpa using hk) h)
      · subst h; rfl
      · exact absurd (by rw [List.getElem_map, List.getElem_map]; exact h2.symm) (this k i (by simpa using hk) (by simpa using hi) h)
    rw [h3]
theorem val_tot {L : PL} {y : Pl × List Int} (hy : y ∈ L) : y.2.length ≤ tot L := by
  induction L with
  | nil => cases hy
  | cons z L ih =>
    unfold tot at *
    rw [List.map_cons, List.sum_cons]
    rcases List.mem_cons.1 hy with rfl | hy
    · omega
    · have := ih hy
      omega
end Go.Proofs.YtfojblbnhapedaaGreatDoor
