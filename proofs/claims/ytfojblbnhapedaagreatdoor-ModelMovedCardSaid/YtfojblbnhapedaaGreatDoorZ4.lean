/- Events whose times are all moved tell the same, with windows moved by as much: the run. Conditions: as each theorem states them. -/
import Derived.Test.YtfojblbnhapedaaGreatDoorY2
import Derived.Test.YtfojblbnhapedaaGreatDoorX8
namespace Go.Proofs.YtfojblbnhapedaaGreatDoor
open Go.RowKit Go.Maps
set_option linter.unusedVariables false
set_option linter.unusedSimpArgs false

/-- A time that may be none yet, and the moved one. -/
def Sh (S v v' : Int) : Prop := (v = -1125899906842624 ∧ v' = -1125899906842624) ∨ (v' = v + S ∧ -2199023255552 ≤ v)
theorem Sh.lt {S a a' b b' : Int} (hS : 0 ≤ S) (h : Sh S a a') (k : Sh S b b') : a < b ↔ a' < b' := by unfold Sh at *; omega
theorem Sh.eq {S a a' b b' : Int} (hS : 0 ≤ S) (h : Sh S a a') (k : Sh S b b') : a = b ↔ a' = b' := by unfold Sh at *; omega
theorem Sh.max {S a a' b b' : Int} (hS : 0 ≤ S) (h : Sh S a a') (k : Sh S b b') : Sh S (max a b) (max a' b') := by unfold Sh at *; omega
/-- A window's end against a time. -/
theorem Sh.le {S x a a' : Int} (hS : 0 ≤ S) (hx : -2 ≤ x) (h : Sh S a a') : x + S ≤ a' ↔ x ≤ a := by unfold Sh at *; omega
/-- Marks, and moved marks. -/
structure ShM (S : Int) (m m' : Mk) : Prop where
  n : m'.n = m.n
  bd : m'.bound = m.bound
  now : Sh S m.now m'.now
  len : m'.all.length = m.all.length
  src : ∀ k, k < m.n → k < m.all.length → Sh S (m.all.getD k (0, false)).1 (m'.all.getD k (0, false)).1 ∧ (m'.all.getD k (0, false)).2 = (m.all.getD k (0, false)).2
def ShA (S : Int) (a a' : Int × Bool) : Prop := a'.2 = a.2 ∧ (a.2 = true → Sh S a.1 a'.1)
def ShS (S : Int) (a a' : Src) : Prop := Sh S a.1 a'.1 ∧ a'.2 = a.2
theorem lstep_sh {S : Int} (hS : 0 ≤ S) {a a' : Int × Bool} {s s' : Src} (h : ShA S a a') (k : ShS S s s') : ShA S (lstep a s) (lstep a' s') := by
  obtain ⟨h1, h2⟩ := h
  obtain ⟨k1, k2⟩ := k
  unfold lstep
  rw [k2, h1]
  by_cases hc : s.2 = false ∧ (a.2 = false ∨ s.1 < a.1)
  · have hc' : s.2 = false ∧ (a.2 = false ∨ s'.1 < a'.1) := by
      refine ⟨hc.1, ?_⟩
      by_cases ha : a.2 = false
      · exact .inl ha
      · rcases hc.2 with h | h
        · exact absurd h ha
        · exact .inr ((Sh.lt hS k1 (h2 (by simpa using ha))).1 h)
    rw [if_pos hc, if_pos hc']
    exact ⟨rfl, fun _ => k1⟩
  · have hc' : ¬ (s.2 = false ∧ (a.2 = false ∨ s'.1 < a'.1)) := fun hh => hc (by
      refine ⟨hh.1, ?_⟩
      by_cases ha : a.2 = false
      · exact .inl ha
      · rcases hh.2 with h | h
        · exact absurd h ha
        · exact .inr ((Sh.lt hS k1 (h2 (by simpa using ha))).2 h))
    rw [if_neg hc, if_neg hc']
    exact ⟨h1, h2⟩
theorem leastF_sh {S : Int} (hS : 0 ≤ S) : ∀ (l l' : List Src) (a a' : Int × Bool), l'.length = l.length → (∀ k (h : k < l.length) (h' : k < l'.length), ShS S l[k] l'[k]) → ShA S a a' → ShA S (l.foldl lstep a) (l'.foldl lstep a')
  | [], [], a, a', _, _, h => h
  | [], _ :: _, _, _, h, _, _ => by simp at h
  | _ :: _, [], _, _, h, _, _ => by simp at h
  | s :: l, s' :: l', a, a', hl, hs, h => by
    rw [List.foldl_cons, List.foldl_cons]
    refine leastF_sh hS l l' _ _ (by simpa using hl) (fun k hk hk' => ?_) (lstep_sh hS h (hs 0 (by simp) (by simp)))
    have := hs (k + 1) (by simpa using hk) (by simpa using hk')
    simpa using this
theorem getD_lt {l : List Src} {k : Nat} (h : k < l.length) : l.getD k (0, false) = l[k] := by rw [List.getD_eq_getElem?_getD, List.getElem?_eq_getElem h]; rfl
theorem change_sh {S : Int} (hS : 0 ≤ S) {m m' : Mk} (h : ShM S m m') {k : Nat} (hk : k < m.n) (hkl : m.n ≤ m.all.length) {t t' : Src} (ht : ShS S t t') : ShM S (m.change k t) (m'.change k t') := by
  have hs := h.src k hk (by omega)
  have he : (m.all.getD k (0, false) = t) ↔ (m'.all.getD k (0, false) = t') := by
    generalize m.all.getD k (0, false) = a at *
    generalize m'.all.getD k (0, false) = a' at *
    obtain ⟨a1, a2⟩ := a
    obtain ⟨b1, b2⟩ := a'
    obtain ⟨t1, t2⟩ := t
    obtain ⟨u1, u2⟩ := t'
    obtain ⟨ht1, ht2⟩ := ht
    obtain ⟨hs1, hs2⟩ := hs
    dsimp only at *
    subst ht2 hs2
    rw [Prod.mk.injEq, Prod.mk.injEq, Sh.eq hS hs1 ht1]
  have hset : ∀ i, i < m.n → i < m.all.length → Sh S ((m.all.set k t).getD i (0, false)).1 ((m'.all.set k t').getD i (0, false)).1 ∧ ((m'.all.set k t').getD i (0, false)).2 = ((m.all.set k t).getD i (0, false)).2 := by
    intro i hi hil
    have hil' : i < m'.all.length := by rw [h.len]; exact hil
    rw [getD_lt (by rw [List.length_set]; exact hil), getD_lt (by rw [List.length_set]; exact hil'), List.getElem_set, List.getElem_set]
    by_cases e : k = i
    · rw [if_pos e, if_pos e]; exact ht
    · rw [if_neg e, if_neg e]
      have := h.src i hi hil
      rw [getD_lt hil, getD_lt hil'] at this
      exact this
  have hle : ShA S (leastF ((m.all.set k t).take m.n)) (leastF ((m'.all.set k t').take m'.n)) := by
    unfold leastF
    rw [h.n]
    refine leastF_sh hS _ _ _ _ ?_ ?_ ⟨rfl, fun h => by cases h⟩
    · rw [List.length_take, List.length_take, List.length_set, List.length_set, h.len]
    · intro i hi hi'
      rw [List.length_take, List.length_set] at hi hi'
      have := hset i (by omega) (by omega)
      rw [getD_lt (by rw [List.length_set]; omega), getD_lt (by rw [List.length_set]; omega)] at this
      rw [List.getElem_take, List.getElem_take]
      exact this
  unfold Mk.change
  by_cases hc : m.all.getD k (0, false) = t
  · rw [if_pos hc, if_pos (he.1 hc)]
    exact h
  · rw [if_neg hc, if_neg fun hh => hc (he.2 hh)]
    refine ⟨h.n, h.bd, ?_, by show (m'.all.set k t').length = (m.all.set k t).length; rw [List.length_set, List.length_set, h.len], fun i hi hil => hset i hi (by have : i < (m.all.set k t).length := hil; rw [List.length_set] at this; exact this)⟩
    dsimp only
    rw [hle.1]
    by_cases hb : (leastF ((m.all.set k t).take m.n)).2 = true
    · rw [if_pos hb, if_pos hb]
      exact Sh.max hS h.now (hle.2 hb)
    · rw [if_neg hb, if_neg hb]
      exact h.now
theorem tell_sh {S : Int} (hS : 0 ≤ S) {m m' : Mk} (h : ShM S m m') {k : Nat} (hk : k < m.n) (hkl : m.n ≤ m.all.length) {u u' : Int} (hu : Sh S u u') : ShM S (m.tell k u) (m'.tell k u') := by
  unfold Mk.tell
  exact change_sh hS h hk hkl ⟨Sh.max hS (h.src k hk (by omega)).1 hu, rfl⟩
end Go.Proofs.YtfojblbnhapedaaGreatDoor
namespace Go.Proofs.YtfojblbnhapedaaGreatDoor
open Go.RowKit Go.Maps
set_option linter.unusedVariables false
set_option linter.unusedSimpArgs false

def shw (S : Int) (w : Int × Int) : Int × Int := (w.1 + S, w.2 + S)
def shp (S : Int) (p : Pl) : Pl := { p with f := p.f + S, t := p.t + S }
def shE (S : Int) (e : Ev) : Ev := if e.k = 3 then e else { e with t := e.t + S }
def gsh (S : Int) (c : Chg) : Chg := ⟨shp S c.p, c.ws.map (shw S)⟩
def DT (p : Pl) : Prop := 0 ≤ p.t
def fitO (S : Int) (o : JOp) : Prop := (o.k = 1 → o.s ∣ S) ∧ (o.k = 2 → o.l ∣ S)
theorem shp_inj (S : Int) : InjD (shp S) DT := fun p q _ _ h => by
  obtain ⟨a, b, c, d⟩ := p
  obtain ⟨a2, b2, c2, d2⟩ := q
  unfold shp at h
  dsimp only at h
  injection h with h1 h2 h3 h4
  subst h1 h2
  rw [show c = c2 by omega, show d = d2 by omega]
theorem shp_mono (S : Int) : ∀ p q, DT p → DT q → leP p q → leP (shp S p) (shp S q) := fun p q _ _ h hl => h (by
  unfold shp ltP at hl
  unfold ltP
  dsimp only at hl
  rcases hl with h1 | ⟨h1, h2 | ⟨h2, h3 | ⟨h3, h4⟩⟩⟩
  · exact .inl (by omega)
  · exact .inr ⟨by omega, .inl h2⟩
  · exact .inr ⟨by omega, .inr ⟨h2, .inl h3⟩⟩
  · exact .inr ⟨by omega, .inr ⟨h2, .inr ⟨h3, by omega⟩⟩⟩)
theorem flr_sh {t b S : Int} (hb : 0 < b) (h : b ∣ S) : flr (t + S) b = flr t b + S := by
  unfold flr
  rw [Int.add_ediv_of_dvd_right h, Int.add_mul, Int.ediv_mul_cancel h]
theorem winsL_sh {K s L S t : Int} (hq : chkV K s L = 0) (h1 : K = 1 → s ∣ S) (h2 : K = 2 → L ∣ S) : winsL K s L (t + S) = (winsL K s L t).map (shw S) := by
  unfold chkV at hq
  unfold winsL
  by_cases e1 : K = 1
  · rw [if_pos (.inl e1)] at hq
    have hS : plainB s L = true := by
      cases hc : plainB s L
      · rw [hc] at hq; simp at hq
      · rfl
    have hb := plainB_bd hS
    rw [if_pos e1, if_pos e1, flr_sh (by omega) (h1 e1)]
    unfold shw
    simp
    omega
  · by_cases e2 : K = 2
    · rw [if_neg (by omega), if_pos e2] at hq
      have hS : slidB s L = true := by
        cases hc : slidB s L
        · rw [hc] at hq; simp at hq
        · rfl
      have hb := slidB_bd hS
      have hf : ∀ i, slF (t + S) s L i = slF t s L i + S := fun i => by
        unfold slF
        rw [show t + S - s = (t - s) + S by omega, flr_sh hb.2.2.1 (h2 e2)]
        omega
      have hn : slN (t + S) s L = slN t s L := by
        unfold slN
        rw [hf 0, show t + S - (slF t s L 0 + S) = t - slF t s L 0 by omega]
      rw [if_neg e1, if_pos e2, if_neg e1, if_pos e2, hn]
      unfold slL
      rw [List.map_map]
      refine List.map_congr_left fun i _ => ?_
      show (slF (t + S) s L i, _) = (slF t s L i + S, slF t s L i + s + S)
      rw [hf i]
      congr 1
      omega
    · rw [if_neg e1, if_neg e2, if_neg e1, if_neg e2]
      unfold shw
      simp
      omega
theorem winsL_hold {K s L t : Int} (hq : chkV K s L = 0) : ∀ w ∈ winsL K s L t, t < w.2 := by
  unfold chkV at hq
  unfold winsL
  by_cases e1 : K = 1
  · rw [if_pos (.inl e1)] at hq
    have hS : plainB s L = true := by
      cases hc : plainB s L
      · rw [hc] at hq; simp at hq
      · rfl
    have hb := plainB_bd hS
    have hf := flr_le t s hb.1
    rw [if_pos e1]
    intro w hw
    rw [List.mem_singleton.1 hw]
    dsimp only
    omega
  · by_cases e2 : K = 2
    · rw [if_neg (by omega), if_pos e2] at hq
      have hS : slidB s L = true := by
        cases hc : slidB s L
        · rw [hc] at hq; simp at hq
        · rfl
      have hb := slidB_bd hS
      rw [if_neg e1, if_pos e2]
      intro w hw
      obtain ⟨i, hi, rfl⟩ := List.mem_map.1 hw
      have hf := flr_le (t - s) L hb.2.2.1
      have hil : (0 : Int) ≤ (i : Int) * L := Int.mul_nonneg (by omega) (by omega)
      have hge : slF t s L i = flr (t - s) L + L + (i : Int) * L := rfl
      dsimp only
      omega
    · by_cases e3 : K = 3
      · rw [if_pos (.inr e3)] at hq
        have hS : plainB s L = true := by
          cases hc : plainB s L
          · rw [hc] at hq; simp at hq
          · rfl
        have hb := plainB_bd hS
        rw [if_neg e1, if_neg e2]
        intro w hw
        rw [List.mem_singleton.1 hw]
        dsimp only
        omega
      · rw [if_neg (by omega), if_neg e2] at hq
        omega
theorem meet_sh (S : Int) (y x : Int × Int) : meetB (shw S y) (shw S x) = meetB y x := by
  unfold meetB shw
  dsimp only
  congr 1
  · rw [decide_eq_decide]; omega
  · rw [decide_eq_decide]; omega
theorem oneS_sh (S : Int) (x o y : Int × Int) : oneS (shw S x) (shw S o) (shw S y) = shw S (oneS x o y) := by
  unfold oneS
  rw [meet_sh]
  split
  · unfold shw
    dsimp only
    rw [Prod.mk.injEq]
    constructor <;> omega
  · rfl
theorem oneF_sh (S : Int) (x : Int × Int) (l : List (Int × Int)) : oneF (shw S x) (l.map (shw S)) = shw S (oneF x l) := by
  have h : ∀ (l : List (Int × Int)) (o : Int × Int), (l.map (shw S)).foldl (oneS (shw S x)) (shw S o) = shw S (l.foldl (oneS x) o) := by
    intro l
    induction l with
    | nil => exact fun o => rfl
    | cons y l ih =>
      intro o
      rw [List.map_cons, List.foldl_cons, List.foldl_cons, oneS_sh, ih]
  exact h l x
theorem goneF_sh (S : Int) (x : Int × Int) (l : List (Int × Int)) : goneF (shw S x) (l.map (shw S)) = (goneF x l).map (shw S) := by
  unfold goneF
  rw [List.filter_map]
  congr 1
  refine List.filter_congr fun y _ => ?_
  exact meet_sh S y x
theorem oneF_ge (x : Int × Int) (l : List (Int × Int)) : x.2 ≤ (oneF x l).2 := by
  have h : ∀ (l : List (Int × Int)) (o : Int × Int), o.2 ≤ (l.foldl (oneS x) o).2 := by
    intro l
    induction l with
    | nil => exact fun o => Int.le_refl _
    | cons y l ih =>
      intro o
      rw [List.foldl_cons]
      refine Int.le_trans ?_ (ih _)
      unfold oneS
      split
      · dsimp only; omega
      · exact Int.le_refl _
  exact h l x
theorem winsP_sh (S : Int) (P : PL) (op : Int) (key : ByteArray) : winsP (mapL (shp S) P) op key = (winsP P op key).map (shw S) := by
  unfold winsP sortW
  have h1 : pickP op key (mapL (shp S) P) = (pickP op key P).map (shw S) := by
    unfold pickP mapL
    rw [List.filter_map, List.map_map, List.map_map]
    rfl
  rw [h1]
  refine (List.map_mergeSort fun a _ b _ => ?_).symm
  unfold shw
  dsimp only
  rw [decide_eq_decide]
  omega
theorem keys_sh (S : Int) (P : PL) (op : Int) (key : ByteArray) (w : Int × Int) : (⟨op, key, w.1 + S, w.2 + S⟩ : Pl) ∈ (mapL (shp S) P).map (·.1) ↔ (⟨op, key, w.1, w.2⟩ : Pl) ∈ P.map (·.1) := by
  unfold mapL
  rw [List.map_map]
  constructor
  · intro h
    obtain ⟨y, hy, e⟩ := List.mem_map.1 h
    refine List.mem_map.2 ⟨y, hy, ?_⟩
    obtain ⟨⟨a, b, c, d⟩, vs⟩ := y
    have e : shp S ⟨a, b, c, d⟩ = ⟨op, key, w.1 + S, w.2 + S⟩ := e
    unfold shp at e
    dsimp only at e
    injection e with h0 h1 h2 h3
    subst h0 h1
    dsimp only
    rw [show c = w.1 by omega, show d = w.2 by omega]
  · intro h
    obtain ⟨y, hy, e⟩ := List.mem_map.1 h
    have e : y.1 = ⟨op, key, w.1, w.2⟩ := e
    refine List.mem_map.2 ⟨y, hy, ?_⟩
    show shp S y.1 = _
    rw [e]
    rfl
theorem chgP_sh (S : Int) (j : Jb) (P : PL) (key : ByteArray) (o : Nat) (w : Int × Int) : chgP j (mapL (shp S) P) key o (shw S w) = gsh S (chgP j P key o w) := by
  unfold chgP
  by_cases h3 : (j.ops.getD o zeroP).k = 3
  · rw [if_pos h3, if_pos h3, winsP_sh, oneF_sh, goneF_sh]
    rfl
  · rw [if_neg h3, if_neg h3]
    have hk := keys_sh S P o key w
    unfold gsh
    show Chg.mk _ _ = Chg.mk _ _
    congr 1
    by_cases hm : (⟨o, key, w.1, w.2⟩ : Pl) ∈ P.map (·.1)
    · rw [if_pos hm]; exact if_pos (hk.2 hm)
    · rw [if_neg hm]; exact if_neg fun hh => hm (hk.1 hh)
theorem jobP_fit {j : Jb} (hj : jobP j) (i : Nat) (hi : i < j.ops.length) : chkV (j.ops.getD i zeroP).k (j.ops.getD i zeroP).s (j.ops.getD i zeroP).l = 0 := (opsP_at hj.2 i hi).2.2.2
theorem chs_sh {S : Int} (hS : 0 ≤ S) {j : Jb} (hj : jobP j) (hf : ∀ i, i < j.ops.length → fitO S (j.ops.getD i zeroP)) {P : PL} (key : ByteArray) {t was was' : Int} (ht : 0 ≤ t) (hw : Sh S was was') :
    chsP j (mapL (shp S) P) key (t + S) was' = (chsP j P key t was).map (gsh S) := by
  unfold chsP
  rw [List.map_flatMap, List.flatMap_def, List.flatMap_def]
  congr 1
  refine List.map_congr_left fun o ho => ?_
  have ho := List.mem_range.1 ho
  have hq := jobP_fit hj o ho
  have hop : opsW j o (t + S) = (opsW j o t).map (shw S) := winsL_sh hq (hf o ho).1 (hf o ho).2
  rw [hop, List.filterMap_map, List.map_filterMap]
  refine filterMap_eq _ fun w hw2 => ?_
  have hh : t < w.2 := winsL_hold hq w hw2
  have hla := hj.1.2.2.2.2.2.2.1
  have hle : (w.2 + S - 1 + j.late ≤ was') ↔ (w.2 - 1 + j.late ≤ was) := by
    have := Sh.le (x := w.2 - 1 + j.late) hS (by omega) hw
    rw [show w.2 + S - 1 + j.late = w.2 - 1 + j.late + S by omega]
    exact this
  show chwP j (mapL (shp S) P) key was' o (shw S w) = Option.map (gsh S) (chwP j P key was o w)
  unfold chwP
  by_cases hg : w.2 - 1 + j.late ≤ was
  · rw [if_pos hg]
    exact if_pos (hle.2 hg)
  · rw [if_neg hg]
    refine (if_neg fun hh => hg (hle.1 hh)).trans ?_
    rw [chgP_sh]
    rfl
theorem chs_dom {j : Jb} (hj : jobP j) {P : PL} (hP : ∀ y ∈ P, DT y.1) {key : ByteArray} {t was : Int} (ht : 0 ≤ t) {c : Chg} (hc : c ∈ chsP j P key t was) (S : Int) : MapC (shp S) DT c (gsh S c) := by
  obtain ⟨i, hi, w, hw, rfl⟩ := chsP_mem hc
  have hh : t < w.2 := winsL_hold (jobP_fit hj i hi) w hw
  refine ⟨rfl, List.length_map _, fun k h h' => ?_, ?_, fun v hv => ?_⟩
  · have e : (gsh S (chgP j P key i w)).ws[k] = shw S (chgP j P key i w).ws[k] := by
      exact List.getElem_map (shw S)
    rw [e]
    rfl
  · unfold chgP
    split
    · have := oneF_ge w (winsP P i key)
      unfold DT
      dsimp only
      omega
    · unfold DT
      dsimp only
      omega
  · unfold chgP at hv
    unfold DT plw
    dsimp only
    split at hv
    · have hv := (List.mem_filter.1 hv).1
      have hv := (sortW_perm _).mem_iff.1 hv
      obtain ⟨y, hy, rfl⟩ := List.mem_map.1 hv
      exact hP y (List.mem_filter.1 hy).1
    · dsimp only at hv
      split at hv
      · rw [List.mem_singleton.1 hv]
        omega
      · cases hv
end Go.Proofs.YtfojblbnhapedaaGreatDoor
namespace Go.Proofs.YtfojblbnhapedaaGreatDoor
open Go.RowKit Go.Maps
set_option linter.unusedVariables false
set_option linter.unusedSimpArgs false

/-- A state, and the moved one. -/
structure SimT (S : Int) (s s' : QS) : Prop where
  mkk : ShM S s.1 s'.1
  okm : OkM s.1
  sel : s'.2 = mapL (shp S) s.2
  dom : ∀ y ∈ s.2, DT y.1
theorem shE_ok {S : Int} (hS : 0 ≤ S) (hS2 : S ≤ 10000000000000) {j : Jb} {e : Ev} (h1 : 0 ≤ e.t) (h2 : e.t ≤ 1000000) : evOk j (shE S e) ↔ evOk j e := by
  unfold shE
  split
  · exact Iff.rfl
  · rename_i h3
    unfold evOk evB evK
    dsimp only
    constructor
    · rintro ⟨⟨a, b, _, _⟩, c⟩
      refine ⟨⟨a, b, by omega, by omega⟩, ?_⟩
      rcases c with c | c | c
      · exact .inl c
      · exact .inr (.inl c)
      · exact absurd c.1 h3
    · rintro ⟨⟨a, b, _, _⟩, c⟩
      refine ⟨⟨a, b, by omega, by omega⟩, ?_⟩
      rcases c with c | c | c
      · exact .inl c
      · exact .inr (.inl c)
      · exact absurd c.1 h3
theorem ask_sh {S : Int} (hS : 0 ≤ S) (hS2 : S ≤ 10000000000000) {m m' : Mk} (h : ShM S m m') (k : Int) {t : Int} (h1 : 0 ≤ t) (h2 : t ≤ 1000000) : askV m' k (t + S) = askV m k t := by
  unfold askV
  rw [h.n]
  by_cases hc : k < 0 ∨ (m.n : Int) ≤ k
  · rw [if_pos (by rcases hc with h | h; exact .inl h; exact .inr (.inl h)), if_pos (by rcases hc with h | h; exact .inl h; exact .inr (.inl h))]
  · rw [if_neg (by omega), if_neg (by omega)]
theorem ask_in {m : Mk} {k t : Int} (h : askV m k t = 0) : k.toNat < m.n := by
  unfold askV at h
  split at h
  · omega
  · omega
theorem mk_sh {S : Int} (hS : 0 ≤ S) (hS2 : S ≤ 10000000000000) {m m' : Mk} (h : ShM S m m') (ok : OkM m) {e : Ev} (h1 : 0 ≤ e.t) (h2 : e.t ≤ 1000000) : ShM S (mkQ m e) (mkQ m' (shE S e)) := by
  have hkl : m.n ≤ m.all.length := by have := ok.n2; have := ok.len; omega
  by_cases h3 : e.k = 3
  · have he : shE S e = e := by unfold shE; rw [if_pos h3]
    rw [he]
    unfold mkQ
    rw [if_neg (by omega), if_neg (by omega), if_neg (by omega), if_neg (by omega)]
    unfold Mk.idle
    have ha : askV m' e.src 0 = askV m e.src 0 := by unfold askV; rw [h.n]
    rw [ha]
    by_cases hc : askV m e.src 0 = 0
    · rw [if_pos hc, if_pos hc]
      have hk := ask_in hc
      exact change_sh hS h hk hkl ⟨(h.src _ hk (by omega)).1, rfl⟩
    · rw [if_neg hc, if_neg hc]
      exact h
  · have he : shE S e = { e with t := e.t + S } := by unfold shE; rw [if_neg h3]
    rw [he]
    unfold mkQ
    dsimp only
    by_cases hk1 : e.k = 1
    · rw [if_pos hk1, if_pos hk1]
      unfold Mk.see
      rw [ask_sh hS hS2 h e.src h1 h2]
      by_cases hc : askV m e.src e.t = 0
      · rw [if_pos hc, if_pos hc]
        have hk := ask_in hc
        refine tell_sh hS h hk hkl ?_
        rw [h.bd]
        have := ok.b1
        have := ok.b2
        unfold Sh
        omega
      · rw [if_neg hc, if_neg hc]
        exact h
    · rw [if_neg hk1, if_neg hk1]
      by_cases hk2 : e.k = 2
      · rw [if_pos hk2, if_pos hk2]
        unfold Mk.told
        rw [ask_sh hS hS2 h e.src h1 h2]
        by_cases hc : askV m e.src e.t = 0
        · rw [if_pos hc, if_pos hc]
          have hk := ask_in hc
          refine tell_sh hS h hk hkl ?_
          unfold Sh
          omega
        · rw [if_neg hc, if_neg hc]
          exact h
      · rw [if_neg hk2, if_neg hk2]
        unfold Mk.idle
        have ha : askV m' e.src 0 = askV m e.src 0 := by unfold askV; rw [h.n]
        rw [ha]
        by_cases hc : askV m e.src 0 = 0
        · rw [if_pos hc, if_pos hc]
          have hk := ask_in hc
          exact change_sh hS h hk hkl ⟨(h.src _ hk (by omega)).1, rfl⟩
        · rw [if_neg hc, if_neg hc]
          exact h
theorem shE_k (S : Int) (e : Ev) : (shE S e).k = e.k ∧ (shE S e).key = e.key ∧ (shE S e).v = e.v := by
  unfold shE
  split <;> exact ⟨rfl, rfl, rfl⟩
theorem rec_sh {S : Int} (hS : 0 ≤ S) {j : Jb} (hj : jobP j) (hf : ∀ i, i < j.ops.length → fitO S (j.ops.getD i zeroP)) {s s' : QS} (h : SimT S s s') {e : Ev} (h1 : 0 ≤ e.t) :
    recQ j s' (shE S e) = (mapL (shp S) (recQ j s e).1, mapL (shp S) (recQ j s e).2) ∧ ∀ y ∈ (recQ j s e).1, DT y.1 := by
  by_cases he : e.k = 1
  · have he' : shE S e = { e with t := e.t + S } := by unfold shE; rw [if_neg (by omega)]
    have hch := chs_sh hS hj hf (P := s.2) e.key h1 h.mkk.now
    have hr := rec_map (shp_inj S) (gsh S) s.1.now s'.1.now e.v (chsP j s.2 e.key e.t s.1.now) (s.2, []) (fun c hc => chs_dom hj h.dom h1 hc S) (fun c hc => by
      have hd : DT c.p := (chs_dom hj h.dom h1 hc S).dp
      unfold DT at hd
      have := Sh.le (x := c.p.t - 1) hS (by omega) h.mkk.now
      show c.p.t + S - 1 ≤ _ ↔ _
      rw [show c.p.t + S - 1 = c.p.t - 1 + S by omega]
      exact this) h.dom
    rw [he']
    unfold recQ
    rw [if_pos he]
    dsimp only
    rw [if_pos he, h.sel, hch]
    unfold recF
    exact hr
  · rw [rec_none he, rec_none (fun hh => he ((shE_k S e).1.symm.trans hh)), h.sel]
    exact ⟨rfl, h.dom⟩
def shT (S : Int) (o : Ot) : Ot := (shp S o.1, o.2)
theorem mov_step {S : Int} (hS : 0 ≤ S) (hS2 : S ≤ 10000000000000) {j : Jb} (hj : jobP j) (hf : ∀ i, i < j.ops.length → fitO S (j.ops.getD i zeroP)) {s s' : QS} (h : SimT S s s') {e : Ev} (h1 : 0 ≤ e.t) (h2 : e.t ≤ 1000000) :
    codeQ j s' (shE S e) = codeQ j s e ∧ SimT S (goQ j s e) (goQ j s' (shE S e)) ∧ tellQ j s' (shE S e) = (tellQ j s e).map (shT S) := by
  obtain ⟨hr, hdom⟩ := rec_sh hS hj hf h (e := e) h1
  have hok := shE_ok hS hS2 (j := j) h1 h2
  have hmk := mk_sh hS hS2 h.mkk h.okm h1 h2
  have hlg : longQ j s' (shE S e) ↔ longQ j s e := by
    unfold longQ
    rw [(shE_k S e).1, hr]
    unfold mapL
    rw [List.length_map]
  have hla := hj.1.2.2.2.2.2.2.1
  have hdue : ∀ y ∈ (recQ j s e).1, dueB s'.1.now (mkQ s'.1 (shE S e)).now (shp S y.1) = dueB s.1.now (mkQ s.1 e).now y.1 := fun y hy => by
    have hd := hdom y hy
    unfold DT at hd
    have e1 := Sh.le (x := y.1.t - 1) hS (by omega) h.mkk.now
    have e2 := Sh.le (x := y.1.t - 1) hS (by omega) hmk.now
    unfold dueB shp
    dsimp only
    rw [show y.1.t + S - 1 = y.1.t - 1 + S by omega, decide_eq_decide.2 e1, decide_eq_decide.2 e2]
  have hgone : ∀ y ∈ (recQ j s e).1, goneB j.late (mkQ s'.1 (shE S e)).now (shp S y.1) = goneB j.late (mkQ s.1 e).now y.1 := fun y hy => by
    have hd := hdom y hy
    unfold DT at hd
    have e2 := Sh.le (x := y.1.t - 1 + j.late) hS (by omega) hmk.now
    unfold goneB shp
    dsimp only
    rw [show y.1.t + S - 1 + j.late = y.1.t - 1 + j.late + S by omega, decide_eq_decide.2 e2]
  refine ⟨?_, ?_, ?_⟩
  · unfold codeQ
    by_cases ho : evOk j e
    · rw [if_neg (show ¬ ¬ evOk j (shE S e) from fun hh => hh (hok.2 ho)), if_neg (show ¬ ¬ evOk j e from fun hh => hh ho)]
      by_cases hl : longQ j s e
      · rw [if_pos (hlg.2 hl), if_pos hl]
      · rw [if_neg (show ¬ longQ j s' (shE S e) from fun hh => hl (hlg.1 hh)), if_neg hl]
    · rw [if_pos (show ¬ evOk j (shE S e) from fun hh => ho (hok.1 hh)), if_pos ho]
  · unfold goQ
    by_cases hc : evOk j e ∧ ¬ longQ j s e
    · rw [if_pos hc, if_pos ⟨hok.2 hc.1, fun hh => hc.2 (hlg.1 hh)⟩]
      unfold nxtQ
      refine ⟨hmk, mkQ_ok h.okm e, ?_, fun y hy => hdom y (List.mem_filter.1 hy).1⟩
      dsimp only
      rw [hr]
      exact passL_map _ _ _ _ hgone
    · rw [if_neg hc, if_neg fun hh => hc ⟨hok.1 hh.1, fun hl => hh.2 (hlg.2 hl)⟩]
      exact h
  · unfold tellQ
    by_cases hc : evOk j e ∧ ¬ longQ j s e
    · rw [if_pos hc, if_pos ⟨hok.2 hc.1, fun hh => hc.2 (hlg.1 hh)⟩]
      have hd : dueQ j s' (shE S e) = mapL (shp S) (dueQ j s e) := by
        unfold dueQ
        rw [hr]
        exact pass_map (shp_inj S) (shp_mono S) _ _ _ _ _ hdom hdue
      rw [hd, hr]
      unfold mapL shT
      rw [List.map_append, List.map_map, List.map_map, List.map_map, List.map_map]
      rfl
    · rw [if_neg hc, if_neg fun hh => hc ⟨hok.1 hh.1, fun hl => hh.2 (hlg.2 hl)⟩]
      rfl
theorem mov_run {S : Int} (hS : 0 ≤ S) (hS2 : S ≤ 10000000000000) {j : Jb} (hj : jobP j) (hf : ∀ i, i < j.ops.length → fitO S (j.ops.getD i zeroP)) : ∀ (l : List Ev) (s s' : QS) (o : List Ot), (∀ e ∈ l, 0 ≤ e.t ∧ e.t ≤ 1000000) → SimT S s s' →
    ((l.map (shE S)).foldl (stepO j) (some (s', o.map (shT S)))).map (·.2) = ((l.foldl (stepO j) (some (s, o))).map (·.2)).map (·.map (shT S))
  | [], s, s', o, _, h => rfl
  | e :: l, s, s', o, hl, h => by
    obtain ⟨h1, h2⟩ := hl e (List.mem_cons_self ..)
    obtain ⟨hc, hs, ht⟩ := mov_step hS hS2 hj hf h h1 h2
    rw [List.map_cons, List.foldl_cons, List.foldl_cons]
    show Option.map _ (List.foldl _ (if _ then _ else _) _) = Option.map _ (Option.map _ (List.foldl _ (if _ then _ else _) _))
    rw [hc]
    by_cases h3 : codeQ j s e = 3
    · rw [if_pos h3, if_pos h3, run_none, run_none]
      rfl
    · rw [if_neg h3, if_neg h3]
      have e1 : o.map (shT S) ++ tellQ j s' (shE S e) = (o ++ tellQ j s e).map (shT S) := by rw [List.map_append, ht]
      show Option.map _ (List.foldl _ (some (_, o.map (shT S) ++ tellQ j s' (shE S e))) _) = _
      rw [e1]
      exact mov_run hS hS2 hj hf l _ _ _ (fun e he => hl e (List.mem_cons_of_mem _ he)) hs
theorem start_sh {S : Int} {j : Jb} (hj : jobP j) : SimT S (startQ j) (startQ j) := by
  have hok := okM_start hj
  refine ⟨⟨rfl, rfl, .inl ⟨rfl, rfl⟩, rfl, fun k hk hkl => ⟨?_, rfl⟩⟩, hok, rfl, fun y hy => by cases hy⟩
  have hk : k < j.sources.toNat := hk
  have e : ((startQ j).1.all.getD k (0, false)) = (-1125899906842624, false) := by
    show (mkLaid j.sources.toNat).getD k (0, false) = _
    unfold mkLaid
    rw [List.getD_eq_getElem?_getD, List.getElem?_append_left (by rw [List.length_replicate]; exact hk), List.getElem?_replicate, if_pos hk]
    rfl
  rw [e]
  exact .inl ⟨rfl, rfl⟩
def shO (S : Int) (o : Ou) : Ou := { o with f := o.f + S, t := o.t + S }
/-- Times moved: the same, with windows moved. -/
theorem moved_law {S : Int} (hS : 0 ≤ S) (hS2 : S ≤ 10000000000000) {j : Jb} (hf : jobP j → ∀ i, i < j.ops.length → fitO S (j.ops.getD i zeroP)) {l : List Ev} (hl : ∀ e ∈ l, 0 ≤ e.t ∧ e.t ≤ 1000000) : allQ j (l.map (shE S)) = (allQ j l).map (·.map (shT S)) := by
  unfold allQ
  by_cases hj : jobP j
  · rw [if_pos hj, if_pos hj]
    exact mov_run hS hS2 hj (hf hj) l _ _ [] hl (start_sh hj)
  · rw [if_neg hj, if_neg hj]
    rfl
theorem shT_ou (S : Int) (j : Jb) (o : List Ot) : (o.map (shT S)).map (otV FT j) = (o.map (otV FT j)).map (shO S) := by
  rw [List.map_map, List.map_map]
  rfl
end Go.Proofs.YtfojblbnhapedaaGreatDoor
