/- A model as a machine of plain lists: what Do tells and leaves, for every good state. Conditions: as each theorem states them. -/
import Derived.Test.YtfojblbnhapedaaGreatDoorR2
import Derived.Test.YtfojblbnhapedaaGreatDoorR3
import Derived.Lib.ItoaMem
namespace Go.Proofs.YtfojblbnhapedaaGreatDoor
open Go.RowKit Go.Maps
set_option linter.unusedVariables false
set_option linter.unusedSimpArgs false

/-- The windows whose places are chosen. -/
def selL (Q : Pl → Bool) (L : PL) : PL := L.filter fun y => Q y.1
def plw (c : Chg) (w : Int × Int) : Pl := ⟨c.p.op, c.p.key, w.1, w.2⟩
theorem selL_app (Q : Pl → Bool) (L M : PL) : selL Q (L ++ M) = selL Q L ++ selL Q M := List.filter_append ..
theorem strike_sel (Q : Pl → Bool) (L : PL) (p : Pl) : selL Q (strike1 L p) = strike1 (selL Q L) p := by
  unfold selL strike1
  rw [List.filter_filter, List.filter_filter]
  congr 1
  funext y
  exact Bool.and_comm _ _
theorem strike_out {L : PL} {p : Pl} (h : ∀ y ∈ L, y.1 ≠ p) : strike1 L p = L := by
  unfold strike1
  rw [List.filter_eq_self]
  intro y hy
  exact decide_eq_true (h y hy)
theorem selL_out {Q : Pl → Bool} {p : Pl} (h : Q p = false) (L : PL) : ∀ y ∈ selL Q L, y.1 ≠ p := by
  intro y hy e
  have h2 := (List.mem_filter.1 hy).2
  rw [e, h] at h2
  exact absurd h2 (by decide)
theorem val_sel {Q : Pl → Bool} {p : Pl} (h : Q p = true) : ∀ L : PL, val1 (selL Q L) p = val1 L p
  | [] => rfl
  | y :: L => by
    have ih := val_sel h L
    unfold val1 selL at *
    by_cases e : y.1 = p
    · have hq : Q y.1 = true := by rw [e]; exact h
      rw [List.filter_cons, if_pos hq, List.find?_cons, List.find?_cons]
      simp [e]
    · by_cases hq : Q y.1 = true
      · rw [List.filter_cons, if_pos hq, List.find?_cons, List.find?_cons]
        simp only [e, decide_false]
        exact ih
      · rw [List.filter_cons, if_neg hq, List.find?_cons]
        simp only [e, decide_false]
        exact ih
theorem take_in {Q : Pl → Bool} (L : PL) (c : Chg) (h : ∀ w ∈ c.ws, Q (plw c w) = true) : ∀ n, n ≤ c.ws.length → takeF (selL Q L) c n = (selL Q (takeF L c n).1, (takeF L c n).2)
  | 0, _ => rfl
  | n + 1, hn => by
    have ih := take_in L c h n (by omega)
    have hq := h c.ws[n] (List.getElem_mem _)
    rw [takeF_succ _ c n (by omega), takeF_succ L c n (by omega), ih]
    unfold takeC
    dsimp only
    rw [strike_sel]
    unfold plw at hq
    rw [val_sel hq]
theorem apply_in {Q : Pl → Bool} (L : PL) (c : Chg) (x : Int) (h : ∀ w ∈ c.ws, Q (plw c w) = true) (hp : Q c.p = true) : applyC (selL Q L) c x = (selL Q (applyC L c x).1, (applyC L c x).2) := by
  have h1 := take_in L c h c.ws.length (Nat.le_refl _)
  unfold applyC
  rw [h1]
  dsimp only
  rw [selL_app, strike_sel]
  have e : selL Q [(c.p, (takeF L c c.ws.length).2 ++ [x])] = [(c.p, (takeF L c c.ws.length).2 ++ [x])] := by
    unfold selL
    rw [List.filter_cons, if_pos (show Q (c.p, _).1 = true from hp)]
    rfl
  rw [e]
theorem take_out {Q : Pl → Bool} (L : PL) (c : Chg) (h : ∀ w ∈ c.ws, Q (plw c w) = false) : ∀ n, n ≤ c.ws.length → selL Q (takeF L c n).1 = selL Q L
  | 0, _ => rfl
  | n + 1, hn => by
    have ih := take_out L c h n (by omega)
    have hq := h c.ws[n] (List.getElem_mem _)
    rw [takeF_succ L c n (by omega)]
    unfold takeC
    dsimp only
    unfold plw at hq
    rw [strike_sel, strike_out (selL_out hq _), ih]
theorem apply_out {Q : Pl → Bool} (L : PL) (c : Chg) (x : Int) (h : ∀ w ∈ c.ws, Q (plw c w) = false) (hp : Q c.p = false) : selL Q (applyC L c x).1 = selL Q L := by
  have h1 := take_out L c h c.ws.length (Nat.le_refl _)
  unfold applyC
  dsimp only
  rw [selL_app, strike_sel, strike_out (selL_out hp _), h1]
  have e : selL Q [(c.p, (takeF L c c.ws.length).2 ++ [x])] = [] := by
    unfold selL
    rw [List.filter_cons, if_neg (show ¬ Q (c.p, _).1 = true by show ¬ Q c.p = true; rw [hp]; decide)]
    rfl
  rw [e, List.append_nil]
/-- A change is all chosen, or all not. -/
def pureC (Q : Pl → Bool) (c : Chg) : Prop := ∀ w ∈ c.ws, Q (plw c w) = Q c.p
theorem recF_sel (Q : Pl → Bool) (was x : Int) : ∀ (l : List Chg) (s t : PL × PL), (∀ c ∈ l, pureC Q c) → t = (selL Q s.1, selL Q s.2) →
    (l.filter fun c => Q c.p).foldl (recS was x) t = (selL Q (l.foldl (recS was x) s).1, selL Q (l.foldl (recS was x) s).2)
  | [], s, t, _, h => h
  | c :: l, s, t, hp, h => by
    have hc := hp c (List.mem_cons_self ..)
    have hl : ∀ c ∈ l, pureC Q c := fun c h => hp c (List.mem_cons_of_mem _ h)
    rw [List.foldl_cons, List.filter_cons]
    by_cases hq : Q c.p = true
    · rw [if_pos hq, List.foldl_cons]
      refine recF_sel Q was x l _ _ hl ?_
      have ha := apply_in (Q := Q) s.1 c x (fun w hw => (hc w hw).trans hq) hq
      rw [h]
      unfold recS
      dsimp only
      rw [ha, selL_app]
      dsimp only
      congr 2
      by_cases hd : c.p.t - 1 ≤ was
      · rw [if_pos hd]
        unfold selL
        rw [List.filter_cons, if_pos (show Q (c.p, _).1 = true from hq)]
        rfl
      · rw [if_neg hd]; rfl
    · have hq : Q c.p = false := by simpa using hq
      rw [if_neg (by rw [hq]; decide)]
      refine recF_sel Q was x l _ _ hl ?_
      rw [h]
      unfold recS
      dsimp only
      rw [apply_out (Q := Q) s.1 c x (fun w hw => (hc w hw).trans hq) hq, selL_app]
      have e : selL Q (if c.p.t - 1 ≤ was then [(c.p, (applyC s.1 c x).2)] else []) = [] := by
        split
        · unfold selL
          rw [List.filter_cons, if_neg (show ¬ Q (c.p, _).1 = true by show ¬ Q c.p = true; rw [hq]; decide)]
          rfl
        · rfl
      rw [e, List.append_nil]
/-- How many windows there are behind a change. -/
theorem strike_len_in {L : PL} (h : ND L) {p : Pl} (hp : p ∈ L.map (·.1)) : (strike1 L p).length + 1 = L.length := by
  induction L with
  | nil => cases hp
  | cons y L ih =>
    have hn := List.nodup_cons.1 (show (y.1 :: L.map (·.1)).Nodup from h)
    by_cases e : y.1 = p
    · have h1 : strike1 L p = L := strike_out (fun z hz e2 => hn.1 (by rw [e, ← e2]; exact List.mem_map.2 ⟨z, hz, rfl⟩))
      unfold strike1 at h1 ⊢
      rw [List.filter_cons, if_neg (by simp [e]), h1]
      rfl
    · have h2 : p ∈ L.map (·.1) := by
        rcases List.mem_cons.1 (show p ∈ y.1 :: L.map (·.1) from hp) with h3 | h3
        · exact absurd h3.symm e
        · exact h3
      have := ih hn.2 h2
      unfold strike1 at this ⊢
      rw [List.filter_cons, if_pos (by simp [e])]
      simp only [List.length_cons]
      omega
theorem keys_strike {L : PL} {p q : Pl} : q ∈ (strike1 L p).map (·.1) ↔ q ∈ L.map (·.1) ∧ q ≠ p := by
  constructor
  · intro h
    obtain ⟨y, hy, rfl⟩ := List.mem_map.1 h
    have := strike1_mem.1 hy
    exact ⟨List.mem_map.2 ⟨y, this.1, rfl⟩, this.2⟩
  · rintro ⟨h, hn⟩
    obtain ⟨y, hy, rfl⟩ := List.mem_map.1 h
    exact List.mem_map.2 ⟨y, strike1_mem.2 ⟨hy, hn⟩, rfl⟩
theorem plw_inj {c : Chg} {a b : Int × Int} (h : plw c a = plw c b) : a = b := by
  unfold plw at h
  injection h with _ _ h1 h2
  exact Prod.ext h1 h2
theorem take_keys (L : PL) (c : Chg) : ∀ n, n ≤ c.ws.length → ∀ q, q ∈ (takeF L c n).1.map (·.1) ↔ q ∈ L.map (·.1) ∧ ∀ w ∈ c.ws.take n, q ≠ plw c w
  | 0, _, q => by rw [takeF_zero]; simp
  | n + 1, h, q => by
    have ih := take_keys L c n (by omega) q
    rw [takeF_succ L c n (by omega)]
    unfold takeC
    dsimp only
    rw [keys_strike, ih, List.take_succ_eq_append_getElem (by omega)]
    constructor
    · rintro ⟨⟨h1, h2⟩, h3⟩
      refine ⟨h1, fun w hw => ?_⟩
      rcases List.mem_append.1 hw with hw | hw
      · exact h2 w hw
      · rw [List.mem_singleton.1 hw]; exact h3
    · rintro ⟨h1, h2⟩
      exact ⟨⟨h1, fun w hw => h2 w (List.mem_append_left _ hw)⟩, h2 _ (List.mem_append_right _ (List.mem_singleton.2 rfl))⟩
theorem take_len_in {L : PL} (hn : ND L) (c : Chg) (hd : c.ws.Nodup) (hi : ∀ w ∈ c.ws, plw c w ∈ L.map (·.1)) : ∀ n, n ≤ c.ws.length → (takeF L c n).1.length + n = L.length
  | 0, _ => rfl
  | n + 1, h => by
    have ih := take_len_in hn c hd hi n (by omega)
    have hk := (take_keys L c n (by omega) (plw c c.ws[n])).2 ⟨hi _ (List.getElem_mem _), fun w hw e => by
      have e := plw_inj e
      obtain ⟨k, hk, he⟩ := List.mem_take_iff_getElem.1 hw
      exact List.pairwise_iff_getElem.1 hd k n (by omega) (by omega) (by omega) (he.trans e.symm)⟩
    rw [takeF_succ L c n (by omega)]
    unfold takeC
    dsimp only
    have := strike_len_in (nd_take c hn n (by omega)) hk
    unfold plw at this
    omega
/-- A change of windows that are there. -/
structure CgIn (L : PL) (c : Chg) : Prop where
  nd : c.ws.Nodup
  mem : ∀ w ∈ c.ws, plw c w ∈ L.map (·.1)
  new : c.p ∈ L.map (·.1) → ∃ w ∈ c.ws, c.p = plw c w
theorem apply_len {L : PL} (hn : ND L) {c : Chg} (h : CgIn L c) (x : Int) : (applyC L c x).1.length + c.ws.length = L.length + 1 := by
  have h1 := take_len_in hn c h.nd h.mem c.ws.length (Nat.le_refl _)
  have h2 : strike1 (takeF L c c.ws.length).1 c.p = (takeF L c c.ws.length).1 := strike_out (fun y hy e => by
    have h3 := (take_keys L c c.ws.length (Nat.le_refl _) c.p).1 (List.mem_map.2 ⟨y, hy, e⟩)
    obtain ⟨w, hw, he⟩ := h.new h3.1
    exact h3.2 w (by rw [List.take_length]; exact hw) he)
  unfold applyC
  dsimp only
  rw [h2, List.length_append]
  simp only [List.length_cons, List.length_nil]
  omega
/-- What a change touches. -/
def touch (c : Chg) (p : Pl) : Prop := p = c.p ∨ ∃ w ∈ c.ws, p = plw c w
theorem apply_keys {L : PL} {c : Chg} {x : Int} {p : Pl} (h : ¬ touch c p) : p ∈ (applyC L c x).1.map (·.1) ↔ p ∈ L.map (·.1) := by
  unfold applyC
  dsimp only
  rw [List.map_append, List.mem_append, keys_strike, take_keys L c _ (Nat.le_refl _)]
  constructor
  · rintro (⟨⟨h1, _⟩, _⟩ | h1)
    · exact h1
    · exact absurd (.inl (List.mem_singleton.1 h1)) h
  · intro h1
    exact .inl ⟨⟨h1, fun w hw e => h (.inr ⟨w, by rw [List.take_length] at hw; exact hw, e⟩)⟩, fun e => h (.inl e)⟩
theorem CgIn.keep {L : PL} {c d : Chg} {x : Int} (h : CgIn L d) (hd : ∀ p, touch c p → touch d p → False) : CgIn (applyC L c x).1 d :=
  ⟨h.nd, fun w hw => (apply_keys (fun ht => hd _ ht (.inr ⟨w, hw, rfl⟩))).2 (h.mem w hw), fun hp => h.new ((apply_keys (fun ht => hd _ ht (.inl rfl))).1 hp)⟩
theorem recs_len (was x : Int) : ∀ (l : List Chg) (s : PL × PL), ND s.1 → (∀ c ∈ l, CgIn s.1 c) → (l.Pairwise fun a b => ∀ p, touch a p → touch b p → False) →
    ((l.foldl (recS was x) s).1.length : Int) = (s.1.length : Int) + cntC l
  | [], s, _, _, _ => by simp [cntC]
  | c :: l, s, hn, hc, hp => by
    have h1 := apply_len hn (hc c (List.mem_cons_self ..)) x
    have hp := List.pairwise_cons.1 hp
    have ih := recs_len was x l (recS was x s c) (nd_apply c x hn) (fun d hd => (hc d (List.mem_cons_of_mem _ hd)).keep (hp.1 d hd)) hp.2
    rw [List.foldl_cons, ih]
    unfold cntC recS
    simp only [List.map_cons, List.sum_cons]
    omega
end Go.Proofs.YtfojblbnhapedaaGreatDoor
namespace Go.Proofs.YtfojblbnhapedaaGreatDoor
open Go.RowKit Go.Maps
set_option linter.unusedVariables false
set_option linter.unusedSimpArgs false

theorem has_plain {M : Md} {p : Pl} : M.has p ↔ p ∈ (plain M.L).map (·.1) := by
  unfold Md.has
  rw [plain_keys]
  constructor
  · rintro ⟨y, hy, rfl⟩; exact List.mem_map.2 ⟨y, hy, rfl⟩
  · intro h
    obtain ⟨y, hy, e⟩ := List.mem_map.1 h
    exact ⟨y, hy, e⟩
theorem winsOf_nodup {M : Md} (h : GoodL M.j (plain M.L)) (op : Int) (key : ByteArray) : (winsOf M op key).Nodup := by
  unfold winsOf
  exact (sortW_perm _).nodup_iff.2 (pickW_nodup h.nd op key)
theorem winsOf_mem {M : Md} {op : Int} {key : ByteArray} {w : Int × Int} : w ∈ winsOf M op key ↔ (⟨op, key, w.1, w.2⟩ : Pl) ∈ (plain M.L).map (·.1) := by
  unfold winsOf
  rw [(sortW_perm _).mem_iff, pickW_mem]
  constructor
  · rintro ⟨⟨⟨o, k, f, t⟩, vs⟩, hy, rfl, rfl, rfl⟩
    exact List.mem_map.2 ⟨_, hy, rfl⟩
  · intro h
    obtain ⟨y, hy, e⟩ := List.mem_map.1 h
    refine ⟨y, hy, ?_, ?_, ?_⟩
    · rw [e]
    · rw [e]
    · rw [e]
/-- A session's merge, when the windows stand apart. -/
theorem chG3 {M : Md} {key : ByteArray} {i : Nat} {w : Int × Int} (h3 : (M.j.ops.getD i zeroP).k = 3) (h : GoodL M.j (plain M.L)) (hw : mayB w = true) : chG M key i w = ⟨⟨i, key, (oneF w (winsOf M i key)).1, (oneF w (winsOf M i key)).2⟩, goneF w (winsOf M i key)⟩ := by
  have hk3 : kindOf M.j (i : Int) = 3 := by unfold kindOf; simpa using h3
  have hap := wins_ap h hk3 key
  have hmv : mergeV (winsOf M i key) w = (oneF w (winsOf M i key), goneF w (winsOf M i key), restL (oneF w (winsOf M i key)) (winsOf M i key), 0) := by
    unfold mergeV
    rw [(ap_iff _).2 hap, hw]
    rfl
  unfold chG
  rw [if_pos h3, hmv]
theorem chs_in {M : Md} {e : Ev} (hj : jobP M.j) (h : GoodL M.j (plain M.L)) (ht1 : -1125899906842624 ≤ e.t) (ht2 : e.t ≤ 1125899906842624) (hk : e.key.size ≤ 64) : ∀ c ∈ M.chs e, CgIn (plain M.L) c := by
  intro c hc
  have hok := (chs_ok hj h ht1 ht2 hk c hc).1
  obtain ⟨i, hi, w, hw, hg, rfl⟩ := chs_mem hc
  have hmp := (opsP_at hj.2 i hi).2.2.2
  obtain ⟨hwm, hwl⟩ := wins_may hmp ht1 ht2 w hw
  by_cases h3 : (M.j.ops.getD i zeroP).k = 3
  · have hk3 : kindOf M.j (i : Int) = 3 := by unfold kindOf; simpa using h3
    rw [chG3 h3 h hwm] at hok ⊢
    refine ⟨(winsOf_nodup h i e.key).sublist List.filter_sublist, fun x hx => ?_, fun hp => ?_⟩
    · exact winsOf_mem.1 (List.mem_filter.1 hx).1
    · obtain ⟨y, hy, hye⟩ := List.mem_map.1 hp
      have hm := may_lt hok.pn.may
      rcases hok.ss hk3 y hy (by rw [hye]) (by rw [hye]) with h1 | h1 | h1
      · refine ⟨_, h1, ?_⟩
        unfold plw
        rw [hye]
      · rw [hye] at h1
        dsimp only at h1 hm
        omega
      · rw [hye] at h1
        dsimp only at h1 hm
        omega
  · have e1 : chG M e.key i w = ⟨⟨i, e.key, w.1, w.2⟩, if M.has ⟨i, e.key, w.1, w.2⟩ then [w] else []⟩ := by unfold chG; rw [if_neg h3]
    rw [e1]
    by_cases hh : M.has ⟨i, e.key, w.1, w.2⟩
    · rw [if_pos hh]
      refine ⟨List.pairwise_singleton _ _, fun x hx => ?_, fun hp => ⟨w, List.mem_singleton.2 rfl, rfl⟩⟩
      rw [List.mem_singleton.1 hx]
      exact has_plain.1 hh
    · rw [if_neg hh]
      exact ⟨List.Pairwise.nil, (fun x hx => by cases hx), fun hp => absurd (has_plain.2 hp) hh⟩
theorem touch_op {c : Chg} {p : Pl} (h : touch c p) : p.op = c.p.op ∧ p.key = c.p.key := by
  rcases h with rfl | ⟨w, _, rfl⟩
  · exact ⟨rfl, rfl⟩
  · exact ⟨rfl, rfl⟩
theorem slF_inj {t S L : Int} (hL : 0 < L) {i k : Nat} (h : slF t S L i = slF t S L k) : i = k := by
  unfold slF at h
  have h2 : (i : Int) * L = (k : Int) * L := by omega
  have := Int.eq_of_mul_eq_mul_right (by omega) h2
  omega
theorem winsL_nodup {K S L t : Int} (hq : chkV K S L = 0) : (winsL K S L t).Nodup := by
  unfold winsL
  by_cases e1 : K = 1
  · rw [if_pos e1]; exact List.pairwise_singleton _ _
  · by_cases e2 : K = 2
    · rw [if_neg e1, if_pos e2]
      unfold chkV at hq
      rw [if_neg (by omega), if_pos e2] at hq
      have hS : slidB S L = true := by
        cases hc : slidB S L
        · rw [hc] at hq; simp at hq
        · rfl
      have hb := slidB_bd hS
      unfold slL List.Nodup
      rw [List.pairwise_map]
      refine List.Pairwise.imp (fun {a b} hab he => hab ?_) List.nodup_range
      injection he with h1 h2
      exact slF_inj (by omega) h1
    · rw [if_neg e1, if_neg e2]; exact List.pairwise_singleton _ _
theorem chWs_pair {M : Md} {key : ByteArray} {was : Int} {i : Nat} (hn3 : (M.j.ops.getD i zeroP).k ≠ 3) : ∀ ws : List (Int × Int), ws.Nodup → (chWs M key was i ws).Pairwise fun a b => ∀ p, touch a p → touch b p → False := by
  intro ws hd
  unfold chWs
  rw [List.pairwise_filterMap]
  refine List.Pairwise.imp (fun {a b} hab c hc d hdd p h1 h2 => hab ?_) hd
  have hone : ∀ (v : Int × Int) (c : Chg), c ∈ chW M key was i v → ∀ p, touch c p → p = ⟨i, key, v.1, v.2⟩ := fun v c hc p hp => by
    unfold chW at hc
    split at hc
    · cases hc
    · have hc := (Option.some.inj hc).symm
      rw [hc] at hp
      unfold chG at hp
      rw [if_neg hn3] at hp
      rcases hp with rfl | ⟨x, hx, rfl⟩
      · rfl
      · dsimp only at hx
        split at hx
        · rw [List.mem_singleton.1 hx]; rfl
        · cases hx
  have h3 := (hone a c hc p h1).symm.trans (hone b d hdd p h2)
  injection h3 with _ _ e1 e2
  exact Prod.ext e1 e2
theorem chs_apart {M : Md} (hj : jobP M.j) (key : ByteArray) (t was : Int) : ∀ n, n ≤ M.j.ops.length → (chO M key t was n).Pairwise fun a b => ∀ p, touch a p → touch b p → False
  | 0, _ => List.Pairwise.nil
  | n + 1, hn => by
    rw [chO_succ, List.pairwise_append]
    refine ⟨chs_apart hj key t was n (by omega), ?_, fun a ha b hb p h1 h2 => ?_⟩
    · by_cases hk : (M.j.ops.getD n zeroP).k = 3
      · have h1 : (chWs M key was n (opW M t n)).length ≤ 1 := by
          have h2 : (chWs M key was n (opW M t n)).length ≤ (opW M t n).length := List.length_filterMap_le _ _
          unfold opW at h2 ⊢
          rw [winsL_one hk] at h2 ⊢
          simpa using h2
        cases hl : chWs M key was n (opW M t n) with
        | nil => exact List.Pairwise.nil
        | cons a l =>
          rw [hl] at h1
          have : l = [] := List.eq_nil_of_length_eq_zero (by simpa using h1)
          rw [this]
          exact List.pairwise_singleton _ _
      · exact chWs_pair hk _ (winsL_nodup (opsP_at hj.2 n (by omega)).2.2.2)
    · obtain ⟨i, hi, w, _, _, rfl⟩ := chs_mem ha
      unfold chWs at hb
      obtain ⟨w2, hw2, h⟩ := List.mem_filterMap.1 hb
      unfold chW at h
      split at h
      · cases h
      · have h := (Option.some.inj h).symm
        have e1 := (touch_op h1).1
        have e2 := (touch_op h2).1
        rw [(chG_op M key i w).1] at e1
        rw [h, (chG_op M key n w2).1] at e2
        omega
/-- How many windows there are behind an event. -/
theorem rec_len {M : Md} {e : Ev} (hj : jobP M.j) (h : GoodL M.j (plain M.L)) (hb : evB M.j.sources e) (hk : evK e) (he : e.k = 1) : ((M.rec_ e).1.length : Int) = (M.L.length : Int) + cntC (M.chs e) := by
  unfold Md.rec_
  rw [if_pos he]
  have h1 := recs_len M.mks.now e.v (M.chs e) (plain M.L, []) h.nd (chs_in hj h hb.2.2.1 hb.2.2.2 (evK_key hk)) (chs_apart hj e.key e.t M.mks.now _ (Nat.le_refl _))
  unfold recF
  rw [h1]
  dsimp only
  rw [plain_len]
theorem long_iff {M : Md} {e : Ev} (hj : jobP M.j) (h : GoodL M.j (plain M.L)) (hb : evB M.j.sources e) (hk : evK e) : M.long e ↔ e.k = 1 ∧ 1024 < (M.rec_ e).1.length := by
  unfold Md.long
  constructor
  · rintro ⟨h1, h2⟩
    have := rec_len hj h hb hk h1
    exact ⟨h1, by omega⟩
  · rintro ⟨h1, h2⟩
    have := rec_len hj h hb hk h1
    exact ⟨h1, by omega⟩
theorem l2_len {M : Md} {e : Ev} (hj : jobP M.j) (h : GoodL M.j (plain M.L)) (hl : M.L.length ≤ 1024) (hb : evB M.j.sources e) (hk : evK e) (hn : ¬ M.long e) : (M.rec_ e).1.length ≤ 1024 := by
  rw [long_iff hj h hb hk] at hn
  by_cases he : e.k = 1
  · exact Nat.le_of_not_lt fun h2 => hn ⟨he, h2⟩
  · unfold Md.rec_
    rw [if_neg he]
    dsimp only
    rw [plain_len]
    exact hl
end Go.Proofs.YtfojblbnhapedaaGreatDoor
namespace Go.Proofs.YtfojblbnhapedaaGreatDoor
open Go.RowKit Go.Maps
set_option linter.unusedVariables false
set_option linter.unusedSimpArgs false

/-- The table of powers of ten is laid. -/
def Tab (w : World) : Prop := Lib.TabIs Tryz.prog w "internal/strconv.uint64pow10" .u64 Lib.pow10Tab
noncomputable def tabG : Nat := (Tryz.prog.globalNamed "internal/strconv.uint64pow10").getD 0
theorem Tab.lt {w : World} (h : Tab w) : tabG < w.heap.size := by
  unfold Tab Lib.TabIs World.var? at h
  unfold tabG
  cases hg : Tryz.prog.globalNamed "internal/strconv.uint64pow10" with
  | none => simp [hg] at h
  | some g =>
    simp only [hg, Option.bind_some, Option.getD_some] at h ⊢
    rcases Nat.lt_or_ge g w.heap.size with h' | h'
    · exact h'
    · rw [Array.getElem?_eq_none h'] at h; simp at h
theorem Tab.kw {S : Nat → Prop} {w w' : World} (h : Tab w) (k : Kw S w w') (hs : ¬ S tabG) : Tab w' := by
  have hlt := h.lt
  unfold Tab Lib.TabIs World.var? at h ⊢
  unfold tabG at hs hlt
  cases hg : Tryz.prog.globalNamed "internal/strconv.uint64pow10" with
  | none => simp [hg] at h
  | some g =>
    simp only [hg, Option.bind_some, Option.getD_some] at h hs hlt ⊢
    rw [k.block g hlt hs]
    exact h
theorem Tab.below {w w' : World} (h : Tab w) (k : Below w.heap.size w w') : Tab w' := h.kw (S := fun _ => False) (Kw.ofBelow k) (fun h => h)
/-- What told takes. -/
structure okT (g : Int) (vs : List Int) : Prop where
  g1 : 1 ≤ g
  g8 : g ≤ 8
  ne : vs ≠ []
  rg : ∀ x ∈ vs, i64 x
  len : vs.length ≤ 100
/-- told answers F, in every world where the table is laid. -/
def Tells (F : Int → List Int → ByteArray) : Prop := ∀ (w : World) (B : Lo), Tab w → ¬ S3 B tabG → ToldOk w B F okT
/-- A model's state in plain words: its marks, its open windows. -/
abbrev QS := Mk × PL
def pickP (op : Int) (key : ByteArray) (P : PL) : List (Int × Int) := (P.filter fun y => decide (y.1.op = op ∧ y.1.key = key)).map fun y => (y.1.f, y.1.t)
def winsP (P : PL) (op : Int) (key : ByteArray) : List (Int × Int) := sortW (pickP op key P)
def chgP (j : Jb) (P : PL) (key : ByteArray) (o : Nat) (w : Int × Int) : Chg :=
  if (j.ops.getD o zeroP).k = 3 then ⟨⟨o, key, (oneF w (winsP P o key)).1, (oneF w (winsP P o key)).2⟩, goneF w (winsP P o key)⟩ else ⟨⟨o, key, w.1, w.2⟩, if (⟨o, key, w.1, w.2⟩ : Pl) ∈ P.map (·.1) then [w] else []⟩
def opsW (j : Jb) (o : Nat) (t : Int) : List (Int × Int) := winsL (j.ops.getD o zeroP).k (j.ops.getD o zeroP).s (j.ops.getD o zeroP).l t
def chwP (j : Jb) (P : PL) (key : ByteArray) (was : Int) (o : Nat) (w : Int × Int) : Option Chg := if w.2 - 1 + j.late ≤ was then none else some (chgP j P key o w)
def chsP (j : Jb) (P : PL) (key : ByteArray) (t was : Int) : List Chg := (List.range j.ops.length).flatMap fun o => (opsW j o t).filterMap (chwP j P key was o)
def recQ (j : Jb) (s : QS) (e : Ev) : PL × PL := if e.k = 1 then recF s.1.now e.v (chsP j s.2 e.key e.t s.1.now) s.2 else (s.2, [])
def mkQ (m : Mk) (e : Ev) : Mk := if e.k = 1 then (m.see e.src e.t).2.2 else if e.k = 2 then (m.told e.src e.t).2 else (m.idle e.src).2
def dueQ (j : Jb) (s : QS) (e : Ev) : PL := passO s.1.now (mkQ s.1 e).now (recQ j s e).1
def nxtQ (j : Jb) (s : QS) (e : Ev) : QS := (mkQ s.1 e, passL j.late (mkQ s.1 e).now (recQ j s e).1)
def evOk (j : Jb) (e : Ev) : Prop := evB j.sources e ∧ evK e
instance (j : Jb) (e : Ev) : Decidable (evOk j e) := by unfold evOk; infer_instance
def longQ (j : Jb) (s : QS) (e : Ev) : Prop := e.k = 1 ∧ 1024 < (recQ j s e).1.length
instance (j : Jb) (s : QS) (e : Ev) : Decidable (longQ j s e) := by unfold longQ; infer_instance
def goQ (j : Jb) (s : QS) (e : Ev) : QS := if evOk j e ∧ ¬ longQ j s e then nxtQ j s e else s
def codeQ (j : Jb) (s : QS) (e : Ev) : Int := if ¬ evOk j e then 2 else if longQ j s e then 3 else 0
/-- An output: the place, the values, whether it is told again. -/
abbrev Ot := Pl × List Int × Bool
def tellQ (j : Jb) (s : QS) (e : Ev) : List Ot := if evOk j e ∧ ¬ longQ j s e then (recQ j s e).2.map (fun o => (o.1, o.2, true)) ++ (dueQ j s e).map (fun o => (o.1, o.2, false)) else []
def aggJ (j : Jb) (o : Int) : Int := (j.ops.getD o.toNat zeroP).agg
def otcells (F : Int → List Int → ByteArray) (j : Jb) (l : List Ot) : List Value := l.flatMap fun o => [.int .i64 o.1.op, .string o.1.key, .int .i64 o.1.f, .int .i64 o.1.t, .string (F (aggJ j o.1.op) o.2.1), .bool o.2.2]
theorem otcells_out (F : Int → List Int → ByteArray) (M : Md) (b : Bool) (l : PL) : outcells F M.aggAt b l = otcells F M.j (l.map fun o => (o.1, o.2, b)) := by
  unfold outcells otcells
  rw [List.flatMap_map]
  rfl
theorem otcells_app (F : Int → List Int → ByteArray) (j : Jb) (l m : List Ot) : otcells F j (l ++ m) = otcells F j l ++ otcells F j m := List.flatMap_append
theorem winsP_of (M : Md) (op : Int) (key : ByteArray) : winsOf M op key = winsP (plain M.L) op key := by
  unfold winsOf winsP pickW pickP Md.Lp plain
  rw [List.filter_map, List.map_map, List.filter_map, List.map_map]
  rfl
theorem filterMap_eq {α β : Type} {f g : α → Option β} : ∀ l : List α, (∀ x ∈ l, f x = g x) → l.filterMap f = l.filterMap g
  | [], _ => rfl
  | x :: l, h => by
    rw [List.filterMap_cons, List.filterMap_cons, h x (List.mem_cons_self ..), filterMap_eq l fun y hy => h y (List.mem_cons_of_mem _ hy)]
theorem chs_of {M : Md} (hj : jobP M.j) (h : GoodL M.j (plain M.L)) {e : Ev} (ht1 : -1125899906842624 ≤ e.t) (ht2 : e.t ≤ 1125899906842624) : M.chs e = chsP M.j (plain M.L) e.key e.t M.mks.now := by
  unfold Md.chs chO chsP
  rw [List.flatMap_def, List.flatMap_def]
  congr 1
  refine List.map_congr_left fun o ho => ?_
  have ho := List.mem_range.1 ho
  unfold chWs
  refine filterMap_eq _ fun w hw => ?_
  unfold chW chwP
  split
  · rfl
  · congr 1
    have hmp := (opsP_at hj.2 o ho).2.2.2
    have hwm := (wins_may hmp ht1 ht2 w hw).1
    unfold chgP
    by_cases h3 : (M.j.ops.getD o zeroP).k = 3
    · rw [if_pos h3, chG3 h3 h hwm, winsP_of]
    · rw [if_neg h3]
      unfold chG
      rw [if_neg h3]
      congr 1
      by_cases hh : M.has ⟨o, e.key, w.1, w.2⟩
      · rw [if_pos hh, if_pos (has_plain.1 hh)]
      · rw [if_neg hh, if_neg (fun h => hh (has_plain.2 h))]
theorem rec_of {M : Md} (hj : jobP M.j) (h : GoodL M.j (plain M.L)) {e : Ev} (ht1 : -1125899906842624 ≤ e.t) (ht2 : e.t ≤ 1125899906842624) : M.rec_ e = recQ M.j (M.mks, plain M.L) e := by
  unfold Md.rec_ recQ
  dsimp only
  rw [chs_of hj h ht1 ht2]
/-- A choice of places of which a record changes at most one window. -/
inductive Thin (j : Jb) (Q : Pl → Bool) : Prop
  | one (p : Pl) (h : kindOf j p.op ≠ 3) (e : ∀ q, Q q = decide (q = p))
  | key (op : Int) (k : ByteArray) (h : kindOf j op = 3) (e : ∀ q, Q q = decide (q.op = op ∧ q.key = k))
theorem chs_self {M : Md} {e : Ev} {c : Chg} (hc : c ∈ M.chs e) (h : kindOf M.j c.p.op ≠ 3) : ∀ w ∈ c.ws, plw c w = c.p := by
  obtain ⟨i, hi, v, hv, hg, rfl⟩ := chs_mem hc
  have h3 : (M.j.ops.getD i zeroP).k ≠ 3 := fun h3 => h (by rw [(chG_op M e.key i v).1]; unfold kindOf; simpa using h3)
  unfold chG
  rw [if_neg h3]
  intro w hw
  dsimp only at hw
  split at hw
  · rw [List.mem_singleton.1 hw]; rfl
  · cases hw
theorem thin_pure {M : Md} {e : Ev} {Q : Pl → Bool} (ht : Thin M.j Q) {c : Chg} (hc : c ∈ M.chs e) : pureC Q c := by
  intro w hw
  cases ht with
  | one p h he =>
    rw [he, he]
    by_cases hk : kindOf M.j c.p.op = 3
    · have h1 : plw c w ≠ p := fun e => h (by rw [← e]; exact hk)
      have h2 : c.p ≠ p := fun e => h (by rw [← e]; exact hk)
      rw [decide_eq_false h1, decide_eq_false h2]
    · rw [chs_self hc hk w hw]
  | key op k h he =>
    rw [he, he]
    rfl
theorem len_le_one {α : Type} {R : α → α → Prop} : ∀ {l : List α}, l.Pairwise R → (∀ a ∈ l, ∀ b ∈ l, ¬ R a b) → l.length ≤ 1
  | [], _, _ => Nat.zero_le _
  | [_], _, _ => Nat.le_refl _
  | a :: b :: l, h, hn => absurd ((List.pairwise_cons.1 h).1 b (List.mem_cons_self ..)) (hn a (List.mem_cons_self ..) b (List.mem_cons_of_mem _ (List.mem_cons_self ..)))
theorem thin_one {M : Md} {e : Ev} {Q : Pl → Bool} (hj : jobP M.j) (ht : Thin M.j Q) (n : Nat) : (((M.chs e).take n).filter fun c => Q c.p).length ≤ 1 := by
  have hs : (((M.chs e).take n).filter fun c => Q c.p).Sublist (M.chs e) := List.filter_sublist.trans (List.take_sublist ..)
  cases ht with
  | one p h he =>
    refine len_le_one ((chs_apart hj e.key e.t M.mks.now _ (Nat.le_refl _)).sublist hs) fun a ha b hb hr => ?_
    have h1 : a.p = p := by have := (List.mem_filter.1 ha).2; rw [he] at this; exact of_decide_eq_true this
    have h2 : b.p = p := by have := (List.mem_filter.1 hb).2; rw [he] at this; exact of_decide_eq_true this
    exact hr p (.inl h1.symm) (.inl h2.symm)
  | key op k h he =>
    refine len_le_one ((chs_pair M e.key e.t M.mks.now M.j.ops.length).sublist hs) fun a ha b hb hr => ?_
    have h1 : a.p.op = op := by have := (List.mem_filter.1 ha).2; rw [he] at this; exact (of_decide_eq_true this).1
    have h2 : b.p.op = op := by have := (List.mem_filter.1 hb).2; rw [he] at this; exact (of_decide_eq_true this).1
    exact hr (by rw [h2]; exact h) (by rw [h1, h2])
theorem thin_tot {M : Md} {e : Ev} {Q : Pl → Bool} (hj : jobP M.j) (ht : Thin M.j Q) (n : Nat) : tot (selL Q (recF M.mks.now e.v ((M.chs e).take n) (plain M.L)).1) ≤ tot (selL Q (plain M.L)) + 1 := by
  have h1 := recF_sel Q M.mks.now e.v ((M.chs e).take n) (plain M.L, []) (selL Q (plain M.L), []) (fun c hc => thin_pure ht (List.mem_of_mem_take hc)) rfl
  have h2 := recF_tot M.mks.now e.v (((M.chs e).take n).filter fun c => Q c.p) (selL Q (plain M.L)) _ (Nat.le_refl _)
  rw [List.take_length] at h2
  unfold recF at h2 ⊢
  rw [h1] at h2
  have h3 := thin_one (e := e) hj ht n
  dsimp only at h2
  omega
theorem thin_at {j : Jb} (p : Pl) : ∃ Q, Thin j Q ∧ Q p = true := by
  by_cases h : kindOf j p.op = 3
  · exact ⟨_, .key p.op p.key h (fun _ => rfl), decide_eq_true ⟨rfl, rfl⟩⟩
  · exact ⟨_, .one p h (fun _ => rfl), decide_eq_true rfl⟩
theorem sel_len {Q : Pl → Bool} {L : PL} {y : Pl × List Int} (hy : y ∈ L) (hq : Q y.1 = true) : y.2.length ≤ tot (selL Q L) := val_tot (List.mem_filter.2 ⟨hy, hq⟩)
theorem pass_sel (Q : Pl → Bool) (late now : Int) (L : PL) : selL Q (passL late now L) = passL late now (selL Q L) := by
  unfold selL passL
  rw [List.filter_filter, List.filter_filter]
  congr 1
  funext y
  exact Bool.and_comm _ _
/-- A model of job j stands at B in the state s; n events were told at most. -/
structure St (w : World) (B : Lo) (j : Jb) (s : QS) (n : Nat) : Prop where
  md : ∃ L d, plain L = s.2 ∧ MdAt w B ⟨j, s.1, L, d⟩ ∧ 0 ≤ d ∧ d ≤ 1000 * (n : Int)
  ok : OkMd ⟨j, s.1, [], 0⟩
  good : GoodL j s.2
  len : s.2.length ≤ 1024
  tt : tot s.2 ≤ 1000 * n
  thin : ∀ Q, Thin j Q → tot (selL Q s.2) ≤ n
  tab : Tab w
  tb : ¬ S3 B tabG
theorem OkMd.to {j : Jb} {m : Mk} {L L' : List Pn} {d d' : Int} (h : OkMd ⟨j, m, L, d⟩) : OkMd ⟨j, m, L', d'⟩ := ⟨h.mks, h.job, h.cl, h.cb, h.late⟩
theorem mkQ_ok {m : Mk} (h : OkM m) (e : Ev) : OkM (mkQ m e) := by
  unfold mkQ
  split
  · exact h.see _ _
  · split
    · exact h.told _ _
    · exact h.idle _
theorem agg_rg {j : Jb} (hj : jobP j) {p : Pl} (hp : PnOk j p) : 1 ≤ aggJ j p.op ∧ aggJ j p.op ≤ 8 := by
  obtain ⟨i, hi, e⟩ := hp.op
  have h := opsP_at hj.2 i hi
  unfold aggJ
  rw [e]
  exact ⟨h.2.1, h.2.2.1⟩
theorem passO_mem {was now : Int} {L : PL} {o : Pl × List Int} (h : o ∈ passO was now L) : ∃ y ∈ L, y.1 = o.1 ∧ o.2 = val1 L o.1 ∧ dueB was now o.1 = true := by
  unfold passO at h
  obtain ⟨p, hp, rfl⟩ := List.mem_map.1 h
  have hp := (List.mergeSort_perm _ _).mem_iff.1 hp
  obtain ⟨y, hy, rfl⟩ := List.mem_map.1 hp
  obtain ⟨hy, hd⟩ := List.mem_filter.1 hy
  exact ⟨y, hy, rfl, rfl, hd⟩
/-- What is told of a good model is told of values that told takes. -/
theorem okT_good {j : Jb} (hj : jobP j) {L : PL} (h : GoodL j L) (ht : ∀ Q, Thin j Q → tot (selL Q L) ≤ 100) {y : Pl × List Int} (hy : y ∈ L) : okT (aggJ j y.1.op) y.2 :=
  ⟨(agg_rg hj (h.pn y hy)).1, (agg_rg hj (h.pn y hy)).2, (h.vs y hy).1, (h.vs y hy).2, by
  obtain ⟨Q, h1, h2⟩ := thin_at (j := j) y.1
  exact Nat.le_trans (sel_len hy h2) (ht Q h1)⟩
theorem rec_tot {M : Md} {e : Ev} (ok : OkMd M) (hb : evB M.j.sources e) : tot (M.rec_ e).1 ≤ tot (plain M.L) + 1000 ∧ ∀ n, n ≤ (M.chs e).length → tot (recF M.mks.now e.v ((M.chs e).take n) (plain M.L)).1 ≤ tot (plain M.L) + 1000 := by
  have hl := chs_len M e ok hb.2.2.1 hb.2.2.2
  have h1 : ∀ n, n ≤ (M.chs e).length → tot (recF M.mks.now e.v ((M.chs e).take n) (plain M.L)).1 ≤ tot (plain M.L) + 1000 := fun n hn => by
    have := recF_tot M.mks.now e.v (M.chs e) (plain M.L) n hn
    omega
  refine ⟨?_, h1⟩
  unfold Md.rec_
  split
  · have := h1 _ (Nat.le_refl _)
    rw [List.take_length] at this
    exact this
  · dsimp only; omega
theorem tot_passL (late now : Int) (L : PL) : tot (passL late now L) ≤ tot L := tot_pass late now L
/-- Do, at a good model. -/
theorem do_q {F : Int → List Int → ByteArray} (HF : Tells F) {w : World} {B : Lo} {j : Jb} {s : QS} {n : Nat} (h : St w B j s n) (hn : n ≤ 99) (e : Ev) (hk : okN e.key) (hv : i64 e.v) :
    Calls Tryz.prog 24 #[ptrV B.bm, evV e] w fun r w' => ∃ v, r = .returned (.tuple #[v, .int .i64 (codeQ j s e)]) ∧ w'.ownsRow w.heap.size 56 6 v (tellQ j s e).length (otcells F j (tellQ j s e)) ∧ St w' B j (goQ j s e) (n + 1) ∧ Kw (S3 B) w w' := by
  obtain ⟨L, d, hL, hm, hd0, hd1⟩ := h.md
  obtain ⟨m, P⟩ := s
  dsimp only at hL hm
  subst hL
  have ok : OkMd ⟨j, m, L, d⟩ := h.ok.to
  have hg : GoodL j (plain L) := h.good
  have hl : L.length ≤ 1024 := by have := h.len; dsimp only at this; rw [plain_len] at this; exact this
  have ht : tot (plain L) ≤ 1000 * n := h.tt
  have hj : jobP j := ok.job
  have hrec : evB j.sources e → Md.rec_ ⟨j, m, L, d⟩ e = recQ j (m, plain L) e := fun hb => rec_of (M := ⟨j, m, L, d⟩) hj hg hb.2.2.1 hb.2.2.2
  have hgr : evB j.sources e → evK e → GoodL j (Md.rec_ ⟨j, m, L, d⟩ e).1 := fun hb hk => rec_good (M := ⟨j, m, L, d⟩) hj hg hb hk hv
  have hth : ∀ Q, Thin j Q → tot (selL Q (plain L)) ≤ n := h.thin
  have htr : ∀ Q, Thin j Q → tot (selL Q (Md.rec_ ⟨j, m, L, d⟩ e).1) ≤ n + 1 := fun Q hQ => by
    have h1 := thin_tot (M := ⟨j, m, L, d⟩) (e := e) hj hQ (Md.chs ⟨j, m, L, d⟩ e).length
    rw [List.take_length] at h1
    have h2 := hth Q hQ
    unfold Md.rec_
    split
    · exact Nat.le_trans h1 (by show tot (selL Q (plain L)) + 1 ≤ n + 1; omega)
    · exact Nat.le_trans h2 (Nat.le_succ _)
  have H : DoH w B ⟨j, m, L, d⟩ F okT e := by
    refine mkDoH ok hg hl (by show tot (plain L) ≤ 900000; omega) ⟨hd0, by show d ≤ 1000000000000; omega⟩ hk hv (HF w B h.tab h.tb) (fun hb hke _ o ho => ?_) (fun hb hke _ o ho => ?_)
    · unfold Md.rec_ at ho
      split at ho
      · rename_i he
        have hcs := chs_ok (M := ⟨j, m, L, d⟩) hj hg hb.2.2.1 hb.2.2.2 (evK_key hke)
        have ho2 := recF_out m.now e.v (Md.chs ⟨j, m, L, d⟩ e) (plain L) _ (Nat.le_refl _) o (by rw [List.take_length]; exact ho)
        obtain ⟨k, hkl, _, rfl, _⟩ := ho2
        have hgk := GoodL.recs (x := e.v) (was := m.now) hg hv (fun c hc => (hcs c hc).1) (chs_pair (⟨j, m, L, d⟩ : Md) e.key e.t m.now j.ops.length) (k + 1) hkl
        have hgk : GoodL j (recF m.now e.v ((Md.chs ⟨j, m, L, d⟩ e).take (k + 1)) (plain L)).1 := hgk
        have htk : ∀ Q, Thin j Q → tot (selL Q (recF m.now e.v ((Md.chs ⟨j, m, L, d⟩ e).take (k + 1)) (plain L)).1) ≤ 100 := fun Q hQ => by
          have h1 := thin_tot (M := ⟨j, m, L, d⟩) (e := e) hj hQ (k + 1)
          have h2 := hth Q hQ
          exact Nat.le_trans h1 (by show tot (selL Q (plain L)) + 1 ≤ 100; omega)
        rw [recF_take m.now e.v (Md.chs ⟨j, m, L, d⟩ e) (plain L) k hkl] at hgk htk
        unfold recS at hgk htk
        dsimp only at hgk htk
        exact okT_good hj hgk htk (y := (((Md.chs ⟨j, m, L, d⟩ e)[k]).p, (applyC (recF m.now e.v ((Md.chs ⟨j, m, L, d⟩ e).take k) (plain L)).1 (Md.chs ⟨j, m, L, d⟩ e)[k] e.v).2)) (by
          conv => rhs; unfold applyC
          dsimp only
          exact List.mem_append_right _ (List.mem_singleton.2 rfl))
      · cases ho
    · unfold Md.o2 at ho
      obtain ⟨y, hy, h1, h2, _⟩ := passO_mem ho
      have h3 := val1_at (hgr hb hke).nd hy
      rw [h1] at h3
      rw [h2, h3, ← h1]
      exact okT_good hj (hgr hb hke) (fun Q hQ => Nat.le_trans (htr Q hQ) (by omega)) hy
  refine (do_any hm H).mono fun r w' hr => ?_
  unfold DoR at hr
  by_cases hc : evB j.sources e ∧ evK e
  · rw [if_neg (fun h => h hc)] at hr
    have hrec := hrec hc.1
    have hlong : Md.long ⟨j, m, L, d⟩ e ↔ longQ j (m, plain L) e := by
      rw [long_iff (M := ⟨j, m, L, d⟩) hj hg hc.1 hc.2, hrec]
      exact Iff.rfl
    by_cases hlg : Md.long ⟨j, m, L, d⟩ e
    · rw [if_pos hlg] at hr
      obtain ⟨rfl, hb⟩ := hr
      have hlg := hlong.1 hlg
      have e1 : codeQ j (m, plain L) e = 3 := by unfold codeQ; rw [if_neg (fun h => h hc), if_pos hlg]
      have e2 : tellQ j (m, plain L) e = [] := by unfold tellQ; rw [if_neg (fun h => h.2 hlg)]
      have e3 : goQ j (m, plain L) e = (m, plain L) := by unfold goQ; rw [if_neg (fun h => h.2 hlg)]
      rw [e1, e2, e3]
      have hmm : MdAt w' B ⟨j, m, L, d⟩ := hm.below hb
      exact ⟨_, rfl, World.ownsRow_nil _ _ _ _, ⟨⟨L, d, rfl, hmm, hd0, by omega⟩, h.ok, h.good, h.len, by have := h.tt; omega, fun Q hQ => Nat.le_trans (h.thin Q hQ) (Nat.le_succ _), h.tab.below hb, h.tb⟩, Kw.ofBelow hb⟩
    · rw [if_neg hlg] at hr
      obtain ⟨v, L', rfl, ho, hp, hm', hk'⟩ := hr
      have hlg2 : ¬ longQ j (m, plain L) e := fun h => hlg (hlong.2 h)
      have e1 : codeQ j (m, plain L) e = 0 := by unfold codeQ; rw [if_neg (fun h => h hc), if_neg hlg2]
      have e2 : tellQ j (m, plain L) e = (recQ j (m, plain L) e).2.map (fun o => (o.1, o.2, true)) ++ (dueQ j (m, plain L) e).map (fun o => (o.1, o.2, false)) := by unfold tellQ; rw [if_pos ⟨hc, hlg2⟩]
      have e3 : goQ j (m, plain L) e = nxtQ j (m, plain L) e := by unfold goQ; rw [if_pos ⟨hc, hlg2⟩]
      have e4 : Md.o2 ⟨j, m, L, d⟩ e = dueQ j (m, plain L) e := by unfold Md.o2 dueQ; rw [hrec]; rfl
      have e5 : Md.l2 ⟨j, m, L, d⟩ e = (nxtQ j (m, plain L) e).2 := by unfold Md.l2 nxtQ; rw [hrec]; rfl
      have hgn := l2_good (M := ⟨j, m, L, d⟩) hj hg hc.1 hc.2 hv
      have hlen := l2_len (M := ⟨j, m, L, d⟩) hj hg hl hc.1 hc.2 hlg
      have htn := (rec_tot (M := ⟨j, m, L, d⟩) ok hc.1).1
      rw [e5] at hgn hp
      rw [e1, e2, e3]
      refine ⟨v, rfl, ?_, ?_, hk'⟩
      · unfold Md.ocells at ho
        rw [otcells_out, otcells_out, ← otcells_app, hrec, e4] at ho
        rw [List.length_append, List.length_map, List.length_map]
        exact ho
      · refine ⟨⟨L', Md.dr2 ⟨j, m, L, d⟩ e, hp, hm', ?_⟩, ⟨mkQ_ok ok.mks e, ok.job, ok.cl, ok.cb, ok.late⟩, hgn, ?_, ?_, ?_, h.tab.kw hk' h.tb, h.tb⟩
        · have hdr : drO ⟨j, m, L, d⟩ e.t m.now j.ops.length ≤ 1000 := drO_bd ⟨j, m, L, d⟩ e ok hc.1.2.2.1 hc.1.2.2.2
          unfold Md.dr2
          split
          · dsimp only; omega
          · dsimp only; omega
        · rw [← e5]
          unfold Md.l2
          exact Nat.le_trans (List.length_filter_le _ _) hlen
        · rw [← e5]
          unfold Md.l2
          have h1 := tot_passL j.late (Md.mk2 ⟨j, m, L, d⟩ e).now (Md.rec_ ⟨j, m, L, d⟩ e).1
          have htn : tot (Md.rec_ ⟨j, m, L, d⟩ e).1 ≤ tot (plain L) + 1000 := htn
          show tot (passL j.late _ _) ≤ _
          omega
        · intro Q hQ
          rw [← e5]
          unfold Md.l2
          show tot (selL Q (passL _ _ _)) ≤ _
          rw [pass_sel]
          exact Nat.le_trans (tot_passL _ _ _) (htr Q hQ)
  · rw [if_pos hc] at hr
    obtain ⟨rfl, hb⟩ := hr
    have e1 : codeQ j (m, plain L) e = 2 := by unfold codeQ; rw [if_pos (show ¬ evOk j e from hc)]
    have e2 : tellQ j (m, plain L) e = [] := by unfold tellQ; rw [if_neg (fun h => hc h.1)]
    have e3 : goQ j (m, plain L) e = (m, plain L) := by unfold goQ; rw [if_neg (fun h => hc h.1)]
    rw [e1, e2, e3]
    exact ⟨_, rfl, World.ownsRow_nil _ _ _ _, ⟨⟨L, d, rfl, hm.below hb, hd0, by omega⟩, h.ok, h.good, h.len, by have := h.tt; omega, fun Q hQ => Nat.le_trans (h.thin Q hQ) (Nat.le_succ _), h.tab.below hb, h.tb⟩, Kw.ofBelow hb⟩
end Go.Proofs.YtfojblbnhapedaaGreatDoor
