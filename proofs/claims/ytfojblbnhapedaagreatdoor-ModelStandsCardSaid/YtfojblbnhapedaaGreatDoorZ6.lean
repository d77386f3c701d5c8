/- Whatever is told is told of places that may be. Conditions: as each theorem states them. -/
import Derived.Test.YtfojblbnhapedaaGreatDoorX9
namespace Go.Proofs.YtfojblbnhapedaaGreatDoor
open Go.RowKit Go.Maps
set_option linter.unusedVariables false
set_option linter.unusedSimpArgs false

def dumL (P : PL) : List Pn := P.map fun y => ⟨y.1, ⟨0, 0, 0⟩, y.2⟩
theorem dum_plain (P : PL) : plain (dumL P) = P := by
  unfold plain dumL
  rw [List.map_map]
  have : ((fun x : Pn => (x.p, x.vs)) ∘ fun y : Pl × List Int => (⟨y.1, ⟨0, 0, 0⟩, y.2⟩ : Pn)) = id := rfl
  rw [this, List.map_id]
theorem rec_of' {j : Jb} (hj : jobP j) {s : QS} (hg : GoodL j s.2) {e : Ev} (hb : evB j.sources e) : Md.rec_ ⟨j, s.1, dumL s.2, 0⟩ e = recQ j s e := by
  have h := rec_of (M := ⟨j, s.1, dumL s.2, 0⟩) hj (by show GoodL j (plain (dumL s.2)); rw [dum_plain]; exact hg) (e := e) hb.2.2.1 hb.2.2.2
  rw [h]
  show recQ j (s.1, plain (dumL s.2)) e = _
  rw [dum_plain]
theorem recQ_good {j : Jb} (hj : jobP j) {s : QS} (hg : GoodL j s.2) {e : Ev} (ho : evOk j e) (hv : i64 e.v) : GoodL j (recQ j s e).1 := by
  have h := rec_good (M := ⟨j, s.1, dumL s.2, 0⟩) (e := e) hj (by show GoodL j (plain (dumL s.2)); rw [dum_plain]; exact hg) ho.1 ho.2 hv
  rw [rec_of' hj hg ho.1] at h
  exact h
theorem recQ_out {j : Jb} (hj : jobP j) {s : QS} (hg : GoodL j s.2) {e : Ev} (ho : evOk j e) : ∀ o ∈ (recQ j s e).2, PnOk j o.1 ∧ o.1.t - 1 ≤ s.1.now ∧ ¬ o.1.t - 1 + j.late ≤ s.1.now := by
  intro o hm
  rw [← rec_of' hj hg ho.1] at hm
  have hg' : GoodL j (plain (dumL s.2)) := by rw [dum_plain]; exact hg
  unfold Md.rec_ at hm
  split at hm
  · rename_i he
    have hcs := chs_ok (M := ⟨j, s.1, dumL s.2, 0⟩) hj hg' ho.1.2.2.1 ho.1.2.2.2 (evK_key ho.2)
    have h2 := recF_out s.1.now e.v (Md.chs ⟨j, s.1, dumL s.2, 0⟩ e) (plain (dumL s.2)) _ (Nat.le_refl _) o (by rw [List.take_length]; exact hm)
    obtain ⟨k, hkl, _, rfl, hd⟩ := h2
    refine ⟨(hcs _ (List.getElem_mem _)).1.pn, hd, ?_⟩
    obtain ⟨i, hi, w, hw, hgn, hce⟩ := chs_mem (M := ⟨j, s.1, dumL s.2, 0⟩) (List.getElem_mem hkl)
    have hwm := (wins_may (opsP_at hj.2 i hi).2.2.2 ho.1.2.2.1 ho.1.2.2.2 w hw).1
    dsimp only
    rw [hce]
    have hge : w.2 ≤ (chG (⟨j, s.1, dumL s.2, 0⟩ : Md) e.key i w).p.t := by
      by_cases h3 : (j.ops.getD i zeroP).k = 3
      · rw [chG3 (M := ⟨j, s.1, dumL s.2, 0⟩) h3 hg' hwm]
        have h4 : ∀ (l : List (Int × Int)) (o : Int × Int), o.2 ≤ (l.foldl (oneS w) o).2 := by
          intro l
          induction l with
          | nil => exact fun o => Int.le_refl _
          | cons y l ih =>
            intro o
            rw [List.foldl_cons]
            refine Int.le_trans ?_ (ih _)
            unfold oneS
            split
            · dsimp only; omega
            · exact Int.le_refl _
        exact h4 _ w
      · unfold chG
        rw [if_neg h3]
        exact Int.le_refl _
    have hgn : ¬ w.2 - 1 + j.late ≤ s.1.now := hgn
    omega
  · cases hm
theorem tell_good {j : Jb} (hj : jobP j) {s : QS} (hg : GoodL j s.2) {e : Ev} (hv : i64 e.v) : (∀ o ∈ tellQ j s e, PnOk j o.1) ∧ GoodL j (goQ j s e).2 := by
  unfold tellQ goQ
  by_cases hc : evOk j e ∧ ¬ longQ j s e
  · rw [if_pos hc, if_pos hc]
    have hr := recQ_good hj hg hc.1 hv
    refine ⟨fun o ho => ?_, hr.pass _ _⟩
    rcases List.mem_append.1 ho with h | h
    · obtain ⟨x, hx, rfl⟩ := List.mem_map.1 h
      exact (recQ_out hj hg hc.1 x hx).1
    · obtain ⟨x, hx, rfl⟩ := List.mem_map.1 h
      obtain ⟨y, hy, h1, _, _⟩ := passO_mem hx
      have := hr.pn y hy
      rw [h1] at this
      exact this
  · rw [if_neg hc, if_neg hc]
    exact ⟨(fun o ho => by cases ho), hg⟩
theorem run_good {j : Jb} (hj : jobP j) : ∀ (l : List Ev) (s : QS) (o : List Ot) (r : QS × List Ot), (∀ e ∈ l, i64 e.v) → GoodL j s.2 → (∀ x ∈ o, PnOk j x.1) → l.foldl (stepO j) (some (s, o)) = some r → GoodL j r.1.2 ∧ ∀ x ∈ r.2, PnOk j x.1
  | [], s, o, r, _, hg, ho, h => by
    obtain rfl := Option.some.inj h
    exact ⟨hg, ho⟩
  | e :: l, s, o, r, hl, hg, ho, h => by
    rw [List.foldl_cons] at h
    obtain ⟨h1, h2⟩ := tell_good hj hg (hl e (List.mem_cons_self ..))
    have h : List.foldl (stepO j) (if codeQ j s e = 3 then none else some (goQ j s e, o ++ tellQ j s e)) l = some r := h
    by_cases hc : codeQ j s e = 3
    · rw [if_pos hc, run_none] at h
      cases h
    · rw [if_neg hc] at h
      refine run_good hj l _ _ r (fun e he => hl e (List.mem_cons_of_mem _ he)) h2 (fun x hx => ?_) h
      rcases List.mem_append.1 hx with hx | hx
      · exact ho x hx
      · exact h1 x hx
/-- The places of all outputs may be. -/
theorem all_pn {j : Jb} {l : List Ev} {o : List Ot} (hl : ∀ e ∈ l, i64 e.v) (h : allQ j l = some o) : ∀ x ∈ o, PnOk j x.1 := by
  unfold allQ at h
  split at h
  · rename_i hj
    obtain ⟨r, hr, rfl⟩ := Option.map_eq_some_iff.1 h
    exact (run_good hj l _ [] r hl (good_nil j) (fun x hx => by cases hx) hr).2
  · cases h
end Go.Proofs.YtfojblbnhapedaaGreatDoor
