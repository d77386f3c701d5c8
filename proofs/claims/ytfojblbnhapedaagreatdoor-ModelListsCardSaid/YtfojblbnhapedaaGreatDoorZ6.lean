/- When outputs are told: again or not, each window once. Conditions: as each theorem states them. -/
import Derived.Test.YtfojblbnhapedaaGreatDoorX9
namespace Go.Proofs.YtfojblbnhapedaaGreatDoor
open Go.RowKit Go.Maps
set_option linter.unusedVariables false
set_option linter.unusedSimpArgs false

def dumL (P : PL) : List Pn := P.map fun y => ⟨y.1, ⟨0, 0, 0⟩, y.2⟩
theorem dum_plain (P : PL) : plain (dumL P) = P := by
  unfold plain dumL
  rw [List.map_map]
  have : ((fun x : Pn => (x.p, x.vs)) ∘ fun y : Pl × List Int => (⟨y.1, ⟨0, 0, 0⟩, y.2⟩ : Pn)) = id := rfl
  rw [this, List.map_id]
theorem rec_of' {j : Jb} (hj : jobP j) {s : QS} (hg : GoodL j s.2) {e : Ev} (hb : evB j.sources e) : Md.rec_ ⟨j, s.1, dumL s.2, 0⟩ e = recQ j s e := by
  have h := rec_of (M := ⟨j, s.1, dumL s.2, 0⟩) hj (by show GoodL j (plain (dumL s.2)); rw [dum_plain]; exact hg) (e := e) hb.2.2.1 hb.2.2.2
  rw [h]
  show recQ j (s.1, plain (dumL s.2)) e = _
  rw [dum_plain]
theorem recQ_good {j : Jb} (hj : jobP j) {s : QS} (hg : GoodL j s.2) {e : Ev} (ho : evOk j e) (hv : i64 e.v) : GoodL j (recQ j s e).1 := by
  have h := rec_good (M := ⟨j, s.1, dumL s.2, 0⟩) (e := e) hj (by show GoodL j (plain (dumL s.2)); rw [dum_plain]; exact hg) ho.1 ho.2 hv
  rw [rec_of' hj hg ho.1] at h
  exact h
theorem recQ_out {j : Jb} (hj : jobP j) {s : QS} (hg : GoodL j s.2) {e : Ev} (ho : evOk j e) : ∀ o ∈ (recQ j s e).2, PnOk j o.1 ∧ o.1.t - 1 ≤ s.1.now ∧ ¬ o.1.t - 1 + j.late ≤ s.1.now := by
  intro o hm
  rw [← rec_of' hj hg ho.1] at hm
  have hg' : GoodL j (plain (dumL s.2)) := by rw [dum_plain]; exact hg
  unfold Md.rec_ at hm
  split at hm
  · rename_i he
    have hcs := chs_ok (M := ⟨j, s.1, dumL s.2, 0⟩) hj hg' ho.1.2.2.1 ho.1.2.2.2 (evK_key ho.2)
    have h2 := recF_out s.1.now e.v (Md.chs ⟨j, s.1, dumL s.2, 0⟩ e) (plain (dumL s.2)) _ (Nat.le_refl _) o (by rw [List.take_length]; exact hm)
    obtain ⟨k, hkl, _, rfl, hd⟩ := h2
    refine ⟨(hcs _ (List.getElem_mem _)).1.pn, hd, ?_⟩
    obtain ⟨i, hi, w, hw, hgn, hce⟩ := chs_mem (M := ⟨j, s.1, dumL s.2, 0⟩) (List.getElem_mem hkl)
    have hwm := (wins_may (opsP_at hj.2 i hi).2.2.2 ho.1.2.2.1 ho.1.2.2.2 w hw).1
    dsimp only
    rw [hce]
    have hge : w.2 ≤ (chG (⟨j, s.1, dumL s.2, 0⟩ : Md) e.key i w).p.t := by
      by_cases h3 : (j.ops.getD i zeroP).k = 3
      · rw [chG3 (M := ⟨j, s.1, dumL s.2, 0⟩) h3 hg' hwm]
        have h4 : ∀ (l : List (Int × Int)) (o : Int × Int), o.2 ≤ (l.foldl (oneS w) o).2 := by
          intro l
          induction l with
          | nil => exact fun o => Int.le_refl _
          | cons y l ih =>
            intro o
            rw [List.foldl_cons]
            refine Int.le_trans ?_ (ih _)
            unfold oneS
            split
            · dsimp only; omega
            · exact Int.le_refl _
        exact h4 _ w
      · unfold chG
        rw [if_neg h3]
        exact Int.le_refl _
    have hgn : ¬ w.2 - 1 + j.late ≤ s.1.now := hgn
    omega
  · cases hm
theorem tell_good {j : Jb} (hj : jobP j) {s : QS} (hg : GoodL j s.2) {e : Ev} (hv : i64 e.v) : (∀ o ∈ tellQ j s e, PnOk j o.1) ∧ GoodL j (goQ j s e).2 := by
  unfold tellQ goQ
  by_cases hc : evOk j e ∧ ¬ longQ j s e
  · rw [if_pos hc, if_pos hc]
    have hr := recQ_good hj hg hc.1 hv
    refine ⟨fun o ho => ?_, hr.pass _ _⟩
    rcases List.mem_append.1 ho with h | h
    · obtain ⟨x, hx, rfl⟩ := List.mem_map.1 h
      exact (recQ_out hj hg hc.1 x hx).1
    · obtain ⟨x, hx, rfl⟩ := List.mem_map.1 h
      obtain ⟨y, hy, h1, _, _⟩ := passO_mem hx
      have := hr.pn y hy
      rw [h1] at this
      exact this
  · rw [if_neg hc, if_neg hc]
    exact ⟨(fun o ho => by cases ho), hg⟩
theorem run_good {j : Jb} (hj : jobP j) : ∀ (l : List Ev) (s : QS) (o : List Ot) (r : QS × List Ot), (∀ e ∈ l, i64 e.v) → GoodL j s.2 → (∀ x ∈ o, PnOk j x.1) → l.foldl (stepO j) (some (s, o)) = some r → GoodL j r.1.2 ∧ ∀ x ∈ r.2, PnOk j x.1
  | [], s, o, r, _, hg, ho, h => by
    obtain rfl := Option.some.inj h
    exact ⟨hg, ho⟩
  | e :: l, s, o, r, hl, hg, ho, h => by
    rw [List.foldl_cons] at h
    obtain ⟨h1, h2⟩ := tell_good hj hg (hl e (List.mem_cons_self ..))
    have h : List.foldl (stepO j) (if codeQ j s e = 3 then none else some (goQ j s e, o ++ tellQ j s e)) l = some r := h
    by_cases hc : codeQ j s e = 3
    · rw [if_pos hc, run_none] at h
      cases h
    · rw [if_neg hc] at h
      refine run_good hj l _ _ r (fun e he => hl e (List.mem_cons_of_mem _ he)) h2 (fun x hx => ?_) h
      rcases List.mem_append.1 hx with hx | hx
      · exact ho x hx
      · exact h1 x hx
/-- The places of all outputs may be. -/
theorem all_pn {j : Jb} {l : List Ev} {o : List Ot} (hl : ∀ e ∈ l, i64 e.v) (h : allQ j l = some o) : ∀ x ∈ o, PnOk j x.1 := by
  unfold allQ at h
  split at h
  · rename_i hj
    obtain ⟨r, hr, rfl⟩ := Option.map_eq_some_iff.1 h
    exact (run_good hj l _ [] r hl (good_nil j) (fun x hx => by cases hx) hr).2
  · cases h
end Go.Proofs.YtfojblbnhapedaaGreatDoor
namespace Go.Proofs.YtfojblbnhapedaaGreatDoor
open Go.RowKit Go.Maps
set_option linter.unusedVariables false
set_option linter.unusedSimpArgs false

theorem change_mono (m : Mk) (k : Nat) (t : Src) : m.now ≤ (m.change k t).now := by
  unfold Mk.change
  split
  · exact Int.le_refl _
  · dsimp only
    split
    · omega
    · exact Int.le_refl _
theorem mkQ_mono (m : Mk) (e : Ev) : m.now ≤ (mkQ m e).now := by
  unfold mkQ
  split
  · unfold Mk.see
    split
    · exact change_mono _ _ _
    · exact Int.le_refl _
  · split
    · unfold Mk.told
      split
      · exact change_mono _ _ _
      · exact Int.le_refl _
    · unfold Mk.idle
      split
      · exact change_mono _ _ _
      · exact Int.le_refl _
theorem goQ_mono (j : Jb) (s : QS) (e : Ev) : s.1.now ≤ (goQ j s e).1.now := by
  unfold goQ
  split
  · exact mkQ_mono _ _
  · exact Int.le_refl _
/-- When an output is told. -/
theorem once_out {j : Jb} (hj : jobP j) {s : QS} (hg : GoodL j s.2) {e : Ev} : ∀ o ∈ tellQ j s e, o.1.t - 1 ≤ (goQ j s e).1.now ∧ (o.2.2 = true → o.1.t - 1 ≤ s.1.now ∧ ¬ o.1.t - 1 + j.late ≤ s.1.now) ∧ (o.2.2 = false → ¬ o.1.t - 1 ≤ s.1.now) := by
  intro o ho
  unfold tellQ at ho
  unfold goQ
  by_cases hc : evOk j e ∧ ¬ longQ j s e
  · rw [if_pos hc] at ho ⊢
    have hm := mkQ_mono s.1 e
    rcases List.mem_append.1 ho with h | h
    · obtain ⟨x, hx, rfl⟩ := List.mem_map.1 h
      have h2 := recQ_out hj hg hc.1 x hx
      refine ⟨Int.le_trans h2.2.1 hm, fun _ => h2.2, fun h => by cases h⟩
    · obtain ⟨x, hx, rfl⟩ := List.mem_map.1 h
      obtain ⟨y, hy, h1, _, hd⟩ := passO_mem hx
      unfold dueB at hd
      simp only [Bool.and_eq_true, decide_eq_true_eq, Bool.not_eq_true', decide_eq_false_iff_not] at hd
      exact ⟨hd.1, fun h => (by cases h), fun _ => hd.2⟩
  · rw [if_neg hc] at ho
    cases ho
theorem passO_nodup {was now : Int} {L : PL} (h : ND L) : ((passO was now L).map (·.1)).Nodup := by
  unfold passO
  rw [List.map_map]
  have e : ((fun x : Pl × List Int => x.1) ∘ fun p => (p, val1 L p)) = id := rfl
  rw [e, List.map_id]
  refine (sortP_perm _).nodup_iff.2 ?_
  exact h.sublist (List.filter_sublist.map _)
/-- No window twice among what is not told again. -/
theorem once_pair {j : Jb} (hj : jobP j) {s : QS} (hg : GoodL j s.2) {e : Ev} (hv : i64 e.v) : (tellQ j s e).Pairwise fun a b => a.2.2 = false → b.2.2 = false → a.1 ≠ b.1 := by
  unfold tellQ
  by_cases hc : evOk j e ∧ ¬ longQ j s e
  · rw [if_pos hc, List.pairwise_append]
    refine ⟨?_, ?_, fun a ha b hb h1 _ => ?_⟩
    · rw [List.pairwise_map]
      exact List.pairwise_of_forall fun a b h => by cases h
    · rw [List.pairwise_map]
      have hn := passO_nodup (was := s.1.now) (now := (mkQ s.1 e).now) (recQ_good hj hg hc.1 hv).nd
      have hn := List.pairwise_map.1 hn
      exact hn.imp fun h _ _ => h
    · obtain ⟨x, hx, rfl⟩ := List.mem_map.1 ha
      cases h1
  · rw [if_neg hc]
    exact List.Pairwise.nil
/-- What has been told of windows that are no sessions. -/
def notS (j : Jb) (o : Ot) : Bool := decide (kindOf j o.1.op ≠ 3)
def OldT (s : QS) (T : List Ot) : Prop := ∀ x ∈ T, x.2.2 = false → x.1.t - 1 ≤ s.1.now
/-- No output that is not told again meets one that was told without Again. -/
theorem once_law {j : Jb} (hj : jobP j) {s : QS} (hg : GoodL j s.2) {e : Ev} (hv : i64 e.v) {T : List Ot} (hT : OldT s T) (k : Nat) (hk : k < (tellQ j s e).length) : (tellQ j s e)[k].2.2 = false → ∀ x ∈ T ++ ((tellQ j s e).take k).filter (notS j), x.2.2 = false → x.1 ≠ (tellQ j s e)[k].1 := by
  intro h0 x hx hx0 he
  have h1 := (once_out hj hg (tellQ j s e)[k] (List.getElem_mem _)).2.2 h0
  rcases List.mem_append.1 hx with h | h
  · have := hT x h hx0
    rw [he] at this
    exact h1 this
  · have h := (List.mem_filter.1 h).1
    obtain ⟨i, hi, hxi⟩ := List.mem_take_iff_getElem.1 h
    have hp := List.pairwise_iff_getElem.1 (once_pair hj hg (e := e) hv) i k (by omega) hk (by omega)
    rw [hxi] at hp
    exact hp hx0 h0 he
theorem old_next {j : Jb} (hj : jobP j) {s : QS} (hg : GoodL j s.2) {e : Ev} {T : List Ot} (hT : OldT s T) : OldT (goQ j s e) (T ++ (tellQ j s e).filter (notS j)) := by
  intro x hx hx0
  rcases List.mem_append.1 hx with h | h
  · exact Int.le_trans (hT x h hx0) (goQ_mono j s e)
  · exact (once_out hj hg x (List.mem_filter.1 h).1).1
end Go.Proofs.YtfojblbnhapedaaGreatDoor
