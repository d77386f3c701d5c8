/- What an operator tells is what the job with it alone tells. Conditions: as each theorem states them. -/
import Derived.Test.YtfojblbnhapedaaGreatDoorX9
import Derived.Test.YtfojblbnhapedaaGreatDoorX8
import Derived.Test.YtfojblbnhapedaaGreatDoorR4
namespace Go.Proofs.YtfojblbnhapedaaGreatDoor
open Go.RowKit Go.Maps
set_option linter.unusedVariables false
set_option linter.unusedSimpArgs false

theorem all_any (j : Jb) (l : List Ev) (A : Option Addr) (c : Nat) (w : World) (hA : RdP w j.A j.ops) (hc : j.ops.length ≤ j.c) (hcb : j.c ≤ 9223372036854775807) (ht : Tab w) (hE : RdE w A l) (hlc : l.length ≤ c) (hcm : c ≤ 9223372036854775807) (hl : l.length ≤ 61) : Calls Tryz.prog 18 #[jbV j, .slice A l.length c] w (AllR w j l) := by
  by_cases hj : jobP j
  · exact all_yes j l A c w hA hc hcb hj ht hE hlc hcm hl
  · exact all_no j l A c w hA hc hcb hj
def evrow (l : List Ev) : List Value := l.flatMap evcells
theorem evrow_app (l m : List Ev) : evrow (l ++ m) = evrow l ++ evrow m := List.flatMap_append
theorem evrow_one (l : List Ev) : ∀ u ∈ evrow l, u.oneCell' = true := by
  intro u hu
  obtain ⟨o, _, ho⟩ := List.mem_flatMap.1 hu
  unfold evcells at ho
  simp only [List.mem_cons, List.not_mem_nil, or_false] at ho
  rcases ho with rfl | rfl | rfl | rfl | rfl <;> rfl
theorem evrow_at : ∀ (l : List Ev) (i : Nat) (h : i < l.length), (evrow l)[i * 5]? = some (.int .i64 (l[i]).k) ∧ (evrow l)[i * 5 + 1]? = some (.int .i64 (l[i]).src) ∧ (evrow l)[i * 5 + 2]? = some (.int .i64 (l[i]).t) ∧ (evrow l)[i * 5 + 3]? = some (.string (l[i]).key) ∧ (evrow l)[i * 5 + 4]? = some (.int .i64 (l[i]).v)
  | [], i, h => absurd h (Nat.not_lt_zero _)
  | o :: l, 0, h => ⟨rfl, rfl, rfl, rfl, rfl⟩
  | o :: l, i + 1, h => by
    have ih := evrow_at l i (by simpa using h)
    have e : ∀ k, (evrow (o :: l))[(i + 1) * 5 + k]? = (evrow l)[i * 5 + k]? := fun k => by
      rw [show (i + 1) * 5 + k = (i * 5 + k) + 5 from by omega]
      rfl
    exact ⟨(e 0).trans ih.1, (e 1).trans ih.2.1, (e 2).trans ih.2.2.1, (e 3).trans ih.2.2.2.1, (e 4).trans ih.2.2.2.2⟩
theorem own_rde {w : World} {base n : Nat} {v : Value} {l : List Ev} (h : w.ownsRow base 26 5 v n (evrow l)) (hn : n = l.length) (ho : ∀ e ∈ l, okN e.key ∧ i64 e.v) : ∃ A c, v = .slice A l.length c ∧ l.length ≤ c ∧ c ≤ 9223372036854775807 ∧ RdE w A l := by
  subst hn
  obtain ⟨A, c, hv, h1, h2, hr⟩ := own_read h (by decide)
  refine ⟨A, c, hv, h1, by simp only [maxLen] at h2; omega, fun hl => ?_, ho⟩
  obtain ⟨g, hA, _, hg, _, hx⟩ := hr hl
  refine ⟨g, 0, hA, hg, fun i hi => ?_⟩
  obtain ⟨h0, h1, h2, h3, h4⟩ := evrow_at l i hi
  rw [Nat.zero_add]
  exact ⟨hx _ _ h0, hx _ _ h1, hx _ _ h2, hx _ _ h3, hx _ _ h4⟩
theorem und49' : Tryz.prog.underlying 49 = some (.slice 26) := by kernel_rfl
theorem i26 : (Tryz.prog.info? 26).map (fun i => (i.zero, i.size, i.bytes)) = some (some (.agg #[.int .i64 0, .int .i64 0, .int .i64 0, .string ⟨#[]⟩, .int .i64 0]), 5, 48) := by kernel_rfl
def jobcells (j : Jb) : Array Value := #[.int .i64 j.groups, .int .i64 j.sources, .int .i64 j.bound, .int .i64 j.late, .slice j.A j.ops.length j.c]
set_option maxRecDepth 100000 in
set_option maxHeartbeats 4000000 in
/-- Too much of it, or nothing to compare. -/
theorem apart_early (j : Jb) (l : List Ev) (A : Option Addr) (c : Nat) (K O : ByteArray) (w : World) (hk : okN O) (h : 60 < l.length ∨ 8 < j.ops.length ∨ K = O ∨ 64 < O.size) : Calls Tryz.prog 5 #[jbV j, .slice A l.length c, .string K, .string O] w fun e w' => e = .returned (.bool true) ∧ Below w.heap.size w w' := by
  have HB := Lib.hid (bl_alloc (Below.refl w.heap.size w) (Obj.cells (jobcells j) 24))
  have HA := Lib.hid (awake_any (w.alloc (Obj.cells (jobcells j) 24)))
  unfold jobcells at HA HB
  obtain ⟨gr, so, bo, la, ops, jA, jc⟩ := j
  unfold jbV
  dsimp only at *
  generalize ops.length = no at *
  generalize l.length = nl at *
  have fin : ∀ (e : Ending) (w' : World), (e = .returned (.bool true) ∧ Below (w.alloc (Obj.cells #[.int .i64 gr, .int .i64 so, .int .i64 bo, .int .i64 la, .slice jA no jc] 24)).heap.size (w.alloc (Obj.cells #[.int .i64 gr, .int .i64 so, .int .i64 bo, .int .i64 la, .slice jA no jc] 24)) w') → e = .returned (.bool true) ∧ Below w.heap.size w w' := fun e w' ⟨h1, h2⟩ => ⟨h1, bl_then HB.out h2⟩
  have HF := Lib.hid fin
  clear fin
  unfold okN at hk
  by_cases h1 : 60 < nl
  · clear h
    go_enter Tryz.func5, Tryz.ntmps5
    go_wp2_with (fail)
    refine HA.out.mono ?_
    rintro e w' he
    obtain ⟨rfl, hb⟩ := HF.out e w' he
    have HB2 := Lib.hid hb
    clear he hb
    go_wp2_with (fail)
    go_ret
    exact ⟨rfl, HB2.out⟩
  · by_cases h2 : 8 < no
    · clear h
      go_enter Tryz.func5, Tryz.ntmps5
      go_wp2_with (fail)
      refine HA.out.mono ?_
      rintro e w' he
      obtain ⟨rfl, hb⟩ := HF.out e w' he
      have HB2 := Lib.hid hb
      clear he hb
      go_wp2_with (fail)
      go_ret
      exact ⟨rfl, HB2.out⟩
    · by_cases h3 : K = O
      · subst h3
        have hkk : (K.toList == K.toList) = true := tl_eq rfl
        clear h
        go_enter Tryz.func5, Tryz.ntmps5
        go_wp2_with (fail)
        refine HA.out.mono ?_
        rintro e w' he
        obtain ⟨rfl, hb⟩ := HF.out e w' he
        have HB2 := Lib.hid hb
        clear he hb
        go_wp2_with (fail)
        go_ret
        exact ⟨rfl, HB2.out⟩
      · have h4 : 64 < O.size := by rcases h with h | h | h | h <;> first | exact absurd h h1 | exact absurd h h2 | exact absurd h h3 | exact h
        have hkk : (K.toList == O.toList) = false := tl_ne h3
        clear h h3
        go_enter Tryz.func5, Tryz.ntmps5
        go_wp2_with (fail)
        refine HA.out.mono ?_
        rintro e w' he
        obtain ⟨rfl, hb⟩ := HF.out e w' he
        have HB2 := Lib.hid hb
        clear he hb
        go_wp2_with (fail)
        go_ret
        exact ⟨rfl, HB2.out⟩
end Go.Proofs.YtfojblbnhapedaaGreatDoor
namespace Go.Proofs.YtfojblbnhapedaaGreatDoor
open Go.RowKit Go.Maps
set_option linter.unusedVariables false
set_option linter.unusedSimpArgs false

/-- The windows at renamed places. -/
def mapL (φ : Pl → Pl) (L : PL) : PL := L.map fun y => (φ y.1, y.2)
def InjD (φ : Pl → Pl) (D : Pl → Prop) : Prop := ∀ p q, D p → D q → φ p = φ q → p = q
theorem mapL_app (φ : Pl → Pl) (L M : PL) : mapL φ (L ++ M) = mapL φ L ++ mapL φ M := List.map_append
theorem strike_map {φ : Pl → Pl} {D : Pl → Prop} (hi : InjD φ D) {p : Pl} (hp : D p) : ∀ L : PL, (∀ y ∈ L, D y.1) → strike1 (mapL φ L) (φ p) = mapL φ (strike1 L p)
  | [], _ => rfl
  | y :: L, h => by
    have ih := strike_map hi hp L fun z hz => h z (List.mem_cons_of_mem _ hz)
    unfold strike1 mapL at ih ⊢
    rw [List.map_cons, List.filter_cons, List.filter_cons]
    by_cases e : y.1 = p
    · rw [if_neg (by simp [e]), if_neg (by simp [e]), ih]
    · have e2 : φ y.1 ≠ φ p := fun he => e (hi _ _ (h y (List.mem_cons_self ..)) hp he)
      rw [if_pos (by simp [e2]), if_pos (by simp [e]), List.map_cons, ih]
theorem val_map {φ : Pl → Pl} {D : Pl → Prop} (hi : InjD φ D) {p : Pl} (hp : D p) : ∀ L : PL, (∀ y ∈ L, D y.1) → val1 (mapL φ L) (φ p) = val1 L p
  | [], _ => rfl
  | y :: L, h => by
    have ih := val_map hi hp L fun z hz => h z (List.mem_cons_of_mem _ hz)
    unfold val1 mapL at ih ⊢
    rw [List.map_cons, List.find?_cons, List.find?_cons]
    by_cases e : y.1 = p
    · simp [e]
    · have e2 : φ y.1 ≠ φ p := fun he => e (hi _ _ (h y (List.mem_cons_self ..)) hp he)
      simp only [e, e2, decide_false]
      exact ih
/-- A change at renamed places. -/
structure MapC (φ : Pl → Pl) (D : Pl → Prop) (c c' : Chg) : Prop where
  pp : c'.p = φ c.p
  len : c'.ws.length = c.ws.length
  ws : ∀ k (h : k < c.ws.length) (h' : k < c'.ws.length), plw c' c'.ws[k] = φ (plw c c.ws[k])
  dp : D c.p
  dw : ∀ w ∈ c.ws, D (plw c w)
theorem take_map {φ : Pl → Pl} {D : Pl → Prop} (hi : InjD φ D) {c c' : Chg} (hm : MapC φ D c c') (L : PL) (hL : ∀ y ∈ L, D y.1) : ∀ n, n ≤ c.ws.length → takeF (mapL φ L) c' n = (mapL φ (takeF L c n).1, (takeF L c n).2)
  | 0, _ => rfl
  | n + 1, h => by
    have ih := take_map hi hm L hL n (by omega)
    have hlen := hm.len
    have hw := hm.ws n (by omega) (by omega)
    have hd := hm.dw c.ws[n] (List.getElem_mem _)
    have hLn : ∀ y ∈ (takeF L c n).1, D y.1 := fun y hy => hL y ((takeF_mem L c n (by omega)).1 y hy).1
    rw [takeF_succ _ c' n (by omega), takeF_succ L c n (by omega), ih]
    unfold takeC
    unfold plw at hw hd
    dsimp only
    rw [hw, strike_map hi hd _ hLn, val_map hi hd _ hLn]
theorem apply_map {φ : Pl → Pl} {D : Pl → Prop} (hi : InjD φ D) {c c' : Chg} (hm : MapC φ D c c') (L : PL) (hL : ∀ y ∈ L, D y.1) (x : Int) : applyC (mapL φ L) c' x = (mapL φ (applyC L c x).1, (applyC L c x).2) := by
  have h1 := take_map hi hm L hL c.ws.length (Nat.le_refl _)
  have hLn : ∀ y ∈ (takeF L c c.ws.length).1, D y.1 := fun y hy => hL y ((takeF_mem L c _ (Nat.le_refl _)).1 y hy).1
  unfold applyC
  rw [hm.len, h1, hm.pp]
  dsimp only
  rw [strike_map hi hm.dp _ hLn, mapL_app]
  rfl
theorem apply_dom {D : Pl → Prop} {c : Chg} {L : PL} (hL : ∀ y ∈ L, D y.1) (hc : D c.p) (x : Int) : ∀ y ∈ (applyC L c x).1, D y.1 := fun y hy => by
  rcases applyC_mem hy with h | h
  · exact hL y h
  · rw [h]; exact hc
theorem rec_map {φ : Pl → Pl} {D : Pl → Prop} (hi : InjD φ D) (g : Chg → Chg) (was was' x : Int) : ∀ (l : List Chg) (s : PL × PL), (∀ c ∈ l, MapC φ D c (g c)) → (∀ c ∈ l, ((g c).p.t - 1 ≤ was' ↔ c.p.t - 1 ≤ was)) → (∀ y ∈ s.1, D y.1) →
    (l.map g).foldl (recS was' x) (mapL φ s.1, mapL φ s.2) = (mapL φ (l.foldl (recS was x) s).1, mapL φ (l.foldl (recS was x) s).2) ∧ ∀ y ∈ (l.foldl (recS was x) s).1, D y.1
  | [], s, _, _, hs => ⟨rfl, hs⟩
  | c :: l, s, hm, hd, hs => by
    have hc := hm c (List.mem_cons_self ..)
    have hdc := hd c (List.mem_cons_self ..)
    have ha := apply_map hi hc s.1 hs x
    have ih := rec_map hi g was was' x l (recS was x s c) (fun d h => hm d (List.mem_cons_of_mem _ h)) (fun d h => hd d (List.mem_cons_of_mem _ h)) (by unfold recS; exact apply_dom hs hc.dp x)
    rw [List.map_cons, List.foldl_cons, List.foldl_cons]
    have e : recS was' x (mapL φ s.1, mapL φ s.2) (g c) = (mapL φ (recS was x s c).1, mapL φ (recS was x s c).2) := by
      unfold recS
      dsimp only
      rw [ha, mapL_app]
      dsimp only
      congr 2
      by_cases h : c.p.t - 1 ≤ was
      · rw [if_pos h, if_pos (hdc.2 h), hc.pp]
        rfl
      · rw [if_neg h, if_neg fun h2 => h (hdc.1 h2)]
        rfl
    rw [e]
    exact ih
theorem sort_map {φ : Pl → Pl} {D : Pl → Prop} (hmono : ∀ p q, D p → D q → leP p q → leP (φ p) (φ q)) (l : List Pl) (hl : ∀ p ∈ l, D p) : sortP (l.map φ) = (sortP l).map φ := by
  have h1 : ((sortP l).map φ).Pairwise leP := by
    rw [List.pairwise_map]
    refine List.Pairwise.imp_of_mem (fun {a b} ha hb hab => hmono a b (hl a ((sortP_perm l).mem_iff.1 ha)) (hl b ((sortP_perm l).mem_iff.1 hb)) hab) (sortP_sorted l)
  exact (sortP_uniq ((sortP_perm l).map φ) h1).symm
theorem pass_map {φ : Pl → Pl} {D : Pl → Prop} (hi : InjD φ D) (hmono : ∀ p q, D p → D q → leP p q → leP (φ p) (φ q)) (was now was' now' : Int) (L : PL) (hL : ∀ y ∈ L, D y.1) (hdue : ∀ y ∈ L, dueB was' now' (φ y.1) = dueB was now y.1) : passO was' now' (mapL φ L) = mapL φ (passO was now L) := by
  have h1 : ((mapL φ L).filter fun y => dueB was' now' y.1).map (·.1) = (((L.filter fun y => dueB was now y.1).map (·.1))).map φ := by
    unfold mapL
    rw [List.filter_map, List.map_map, List.map_map]
    have h2 : L.filter ((fun y : Pl × List Int => dueB was' now' y.1) ∘ fun y => (φ y.1, y.2)) = L.filter fun y => dueB was now y.1 := List.filter_congr fun y hy => hdue y hy
    rw [h2]
    rfl
  unfold passO
  rw [h1, sort_map hmono _ (fun p hp => by
    obtain ⟨y, hy, rfl⟩ := List.mem_map.1 hp
    exact hL y (List.mem_filter.1 hy).1)]
  unfold mapL
  rw [List.map_map, List.map_map]
  refine List.map_congr_left fun p hp => ?_
  have hp := (sortP_perm _).mem_iff.1 hp
  obtain ⟨y, hy, rfl⟩ := List.mem_map.1 hp
  have hv := val_map hi (hL y (List.mem_filter.1 hy).1) L hL
  unfold mapL at hv
  show (φ y.1, val1 _ (φ y.1)) = (φ y.1, val1 L y.1)
  rw [hv]
theorem passL_map {φ : Pl → Pl} (late now now' : Int) (L : PL) (hg : ∀ y ∈ L, goneB late now' (φ y.1) = goneB late now y.1) : passL late now' (mapL φ L) = mapL φ (passL late now L) := by
  unfold passL mapL
  rw [List.filter_map]
  congr 1
  refine List.filter_congr fun y hy => ?_
  show (!goneB late now' (φ y.1)) = _
  rw [hg y hy]
end Go.Proofs.YtfojblbnhapedaaGreatDoor
namespace Go.Proofs.YtfojblbnhapedaaGreatDoor
open Go.RowKit Go.Maps
set_option linter.unusedVariables false
set_option linter.unusedSimpArgs false

/-- The job with operator i alone. -/
def oneJ (j : Jb) (i : Nat) (g : Int) (A : Option Addr) (c : Nat) : Jb := ⟨g, j.sources, j.bound, j.late, [j.ops.getD i zeroP], A, c⟩
def QO (i : Nat) (p : Pl) : Bool := decide (p.op = (i : Int))
def re0 (p : Pl) : Pl := { p with op := 0 }
def DO (i : Nat) (p : Pl) : Prop := p.op = (i : Int)
def gre (c : Chg) : Chg := ⟨re0 c.p, c.ws⟩
theorem re0_inj (i : Nat) : InjD re0 (DO i) := fun p q hp hq h => by
  obtain ⟨a, b, c, d⟩ := p
  obtain ⟨a2, b2, c2, d2⟩ := q
  unfold DO at hp hq
  dsimp only at hp hq
  subst hp hq
  unfold re0 at h
  dsimp only at h
  injection h with _ h1 h2 h3
  subst h1 h2 h3
  rfl
theorem re0_mono (i : Nat) : ∀ p q, DO i p → DO i q → leP p q → leP (re0 p) (re0 q) := fun p q hp hq h hl => h (by
  obtain ⟨a, b, c, d⟩ := p
  obtain ⟨a2, b2, c2, d2⟩ := q
  unfold DO at hp hq
  dsimp only at hp hq
  subst hp hq
  unfold re0 ltP at hl
  unfold ltP
  dsimp only at hl ⊢
  rcases hl with h1 | ⟨h1, h2 | ⟨_, h2⟩⟩
  · exact .inl h1
  · exact absurd h2 (Int.lt_irrefl _)
  · exact .inr ⟨h1, .inr ⟨rfl, h2⟩⟩)
theorem selO_dom (i : Nat) (P : PL) : ∀ y ∈ selL (QO i) P, DO i y.1 := fun y hy => of_decide_eq_true (p := y.1.op = (i : Int)) (List.mem_filter.1 hy).2
theorem gre_map {i : Nat} {c : Chg} (h : c.p.op = (i : Int)) : MapC re0 (DO i) c (gre c) := ⟨rfl, rfl, fun k _ _ => rfl, h, fun w _ => h⟩
theorem winsP_one (i : Nat) (P : PL) (key : ByteArray) : winsP (mapL re0 (selL (QO i) P)) 0 key = winsP P i key := by
  unfold winsP pickP mapL selL
  rw [List.filter_map, List.map_map, List.filter_filter]
  have h : (P.filter fun y => ((fun y : Pl × List Int => decide (y.1.op = 0 ∧ y.1.key = key)) ∘ fun y => (re0 y.1, y.2)) y && QO i y.1) = P.filter fun y => decide (y.1.op = (i : Int) ∧ y.1.key = key) := by
    refine List.filter_congr fun y _ => ?_
    show (decide ((0 : Int) = 0 ∧ y.1.key = key) && decide (y.1.op = (i : Int))) = decide (y.1.op = (i : Int) ∧ y.1.key = key)
    by_cases h1 : y.1.op = (i : Int) <;> by_cases h2 : y.1.key = key <;> simp [h1, h2]
  rw [h]
  rfl
theorem keys_one (i : Nat) (P : PL) (key : ByteArray) (w : Int × Int) : (⟨0, key, w.1, w.2⟩ : Pl) ∈ (mapL re0 (selL (QO i) P)).map (·.1) ↔ (⟨i, key, w.1, w.2⟩ : Pl) ∈ P.map (·.1) := by
  unfold mapL selL
  rw [List.map_map]
  constructor
  · intro h
    obtain ⟨y, hy, e⟩ := List.mem_map.1 h
    obtain ⟨hy, hq⟩ := List.mem_filter.1 hy
    have hq : y.1.op = (i : Int) := of_decide_eq_true hq
    refine List.mem_map.2 ⟨y, hy, ?_⟩
    obtain ⟨⟨a, b, c, d⟩, vs⟩ := y
    dsimp only at hq
    subst hq
    have e : re0 ⟨(i : Int), b, c, d⟩ = ⟨0, key, w.1, w.2⟩ := e
    unfold re0 at e
    dsimp only at e
    injection e with _ h1 h2 h3
    subst h1
    dsimp only
    rw [h2, h3]
  · intro h
    obtain ⟨y, hy, e⟩ := List.mem_map.1 h
    have e : y.1 = ⟨i, key, w.1, w.2⟩ := e
    refine List.mem_map.2 ⟨y, List.mem_filter.2 ⟨hy, decide_eq_true (by rw [e])⟩, ?_⟩
    show re0 y.1 = _
    rw [e]
    rfl
theorem flat_one {α : Type} (f : Nat → List α) (i : Nat) : ∀ n, i < n → (∀ o, o < n → o ≠ i → f o = []) → (List.range n).flatMap f = f i
  | 0, h, _ => absurd h (Nat.not_lt_zero _)
  | n + 1, h, hf => by
    rw [List.range_succ, List.flatMap_append]
    by_cases e : i = n
    · subst e
      have h0 : (List.range i).flatMap f = [] := by
        rw [List.flatMap_eq_nil_iff]
        intro o ho
        have ho := List.mem_range.1 ho
        exact hf o (by omega) (by omega)
      rw [h0]
      simp
    · rw [flat_one f i n (by omega) fun o ho hne => hf o (by omega) hne]
      have h1 := hf n (by omega) (fun h => e h.symm)
      simp [h1]
/-- A record's changes of the operator. -/
theorem chs_one (j : Jb) (i g : Int) (A : Option Addr) (c : Nat) (n : Nat) (hn : n < j.ops.length) (P : PL) (key : ByteArray) (t was : Int) :
    chsP (oneJ j n g A c) (mapL re0 (selL (QO n) P)) key t was = ((chsP j P key t was).filter fun c => QO n c.p).map gre := by
  have h1 : (chsP j P key t was).filter (fun c => QO n c.p) = (opsW j n t).filterMap (chwP j P key was n) := by
    unfold chsP
    rw [List.filter_flatMap, flat_one _ n j.ops.length hn]
    · rw [List.filter_eq_self]
      intro c hc
      obtain ⟨w, hw, h⟩ := List.mem_filterMap.1 hc
      unfold chwP at h
      split at h
      · cases h
      · have h := (Option.some.inj h).symm
        rw [h]
        exact decide_eq_true (chgP_key j P key n w).2
    · intro o ho hne
      rw [List.filter_eq_nil_iff]
      intro c hc hq
      obtain ⟨w, hw, h⟩ := List.mem_filterMap.1 hc
      unfold chwP at h
      split at h
      · cases h
      · have h := (Option.some.inj h).symm
        rw [h] at hq
        have hq : (chgP j P key o w).p.op = (n : Int) := of_decide_eq_true hq
        rw [(chgP_key j P key o w).2] at hq
        omega
  rw [h1]
  unfold chsP
  have h2 : (List.range (oneJ j n g A c).ops.length) = [0] := rfl
  rw [h2, List.flatMap_cons, List.flatMap_nil, List.append_nil, List.map_filterMap]
  have h3 : opsW (oneJ j n g A c) 0 t = opsW j n t := rfl
  rw [h3]
  refine filterMap_eq _ fun w _ => ?_
  unfold chwP
  have h4 : (oneJ j n g A c).late = j.late := rfl
  rw [h4]
  by_cases hg : w.2 - 1 + j.late ≤ was
  · rw [if_pos hg, if_pos hg]; rfl
  · rw [if_neg hg, if_neg hg]
    show some _ = some (gre _)
    congr 1
    unfold chgP
    have h5 : ((oneJ j n g A c).ops.getD 0 zeroP).k = (j.ops.getD n zeroP).k := rfl
    rw [h5]
    by_cases h3 : (j.ops.getD n zeroP).k = 3
    · rw [if_pos h3, if_pos h3]
      have := winsP_one n P key
      show Chg.mk _ _ = Chg.mk _ _
      rw [show ((0 : Nat) : Int) = 0 from rfl, this]
      rfl
    · rw [if_neg h3, if_neg h3]
      have hk := keys_one n P key w
      show Chg.mk _ _ = Chg.mk _ _
      congr 1
      by_cases hm : (⟨n, key, w.1, w.2⟩ : Pl) ∈ P.map (·.1)
      · rw [if_pos hm]; exact if_pos (hk.2 hm)
      · rw [if_neg hm]; exact if_neg fun hh => hm (hk.1 hh)
/-- The whole's state, and the one's. -/
structure SimO (i : Nat) (s s2 : QS) : Prop where
  mkk : s2.1 = s.1
  sel : s2.2 = mapL re0 (selL (QO i) s.2)
theorem pure_op (i : Nat) (c : Chg) : pureC (QO i) c := fun w _ => rfl
theorem rec_one {j : Jb} {i : Nat} (hi : i < j.ops.length) (g : Int) (A : Option Addr) (c : Nat) {s s2 : QS} (h : SimO i s s2) (e : Ev) : recQ (oneJ j i g A c) s2 e = (mapL re0 (selL (QO i) (recQ j s e).1), mapL re0 (selL (QO i) (recQ j s e).2)) := by
  by_cases he : e.k = 1
  · unfold recQ
    rw [if_pos he, if_pos he, h.mkk, h.sel, chs_one j 0 g A c i hi]
    have hf := recF_sel (QO i) s.1.now e.v (chsP j s.2 e.key e.t s.1.now) (s.2, []) (selL (QO i) s.2, []) (fun c _ => pure_op _ c) rfl
    have hr := rec_map (re0_inj i) gre s.1.now s.1.now e.v ((chsP j s.2 e.key e.t s.1.now).filter fun c => QO i c.p) (selL (QO i) s.2, []) (fun c hc => gre_map (of_decide_eq_true (List.mem_filter.1 hc).2)) (fun c _ => Iff.rfl) (selO_dom i s.2)
    have hr := hr.1
    rw [hf] at hr
    unfold recF
    exact hr
  · rw [rec_none he, rec_none he, h.sel]
    rfl
theorem one_ok {j : Jb} {i : Nat} {g : Int} {A : Option Addr} {c : Nat} {e : Ev} : evOk (oneJ j i g A c) e ↔ evOk j e := Iff.rfl
theorem dueQ_sel (Q : Pl → Bool) (j : Jb) (s : QS) (e : Ev) : selL Q (dueQ j s e) = passO s.1.now (mkQ s.1 e).now (selL Q (recQ j s e).1) := passO_sel Q _ _ _
def reT (o : Ot) : Ot := (re0 o.1, o.2)
theorem one_step {j : Jb} {i : Nat} (hi : i < j.ops.length) (g : Int) (A : Option Addr) (c : Nat) {s s2 : QS} (h : SimO i s s2) (e : Ev) (h1 : codeQ j s e ≠ 3) :
    codeQ (oneJ j i g A c) s2 e ≠ 3 ∧ SimO i (goQ j s e) (goQ (oneJ j i g A c) s2 e) ∧ tellQ (oneJ j i g A c) s2 e = ((tellQ j s e).filter fun o => QO i o.1).map reT := by
  have hr := rec_one hi g A c h e
  by_cases hok : evOk j e
  · have hok2 : evOk (oneJ j i g A c) e := hok
    have hl1 : ¬ longQ j s e := fun hl => h1 (by unfold codeQ; rw [if_neg (fun h => h hok), if_pos hl])
    have hl2 : ¬ longQ (oneJ j i g A c) s2 e := fun hl => hl1 ⟨hl.1, by
      have h2 := hl.2
      rw [hr] at h2
      unfold mapL selL at h2
      rw [List.length_map] at h2
      exact Nat.lt_of_lt_of_le h2 (List.length_filter_le _ _)⟩
    have hmk : mkQ s2.1 e = mkQ s.1 e := by rw [h.mkk]
    have hdom := selO_dom i (recQ j s e).1
    refine ⟨?_, ⟨?_, ?_⟩, ?_⟩
    · unfold codeQ
      rw [if_neg (fun h => h hok2), if_neg hl2]
      decide
    · unfold goQ
      rw [if_pos ⟨hok2, hl2⟩, if_pos ⟨hok, hl1⟩]
      exact hmk
    · unfold goQ
      rw [if_pos ⟨hok2, hl2⟩, if_pos ⟨hok, hl1⟩]
      show passL j.late (mkQ s2.1 e).now (recQ (oneJ j i g A c) s2 e).1 = mapL re0 (selL (QO i) (passL j.late (mkQ s.1 e).now (recQ j s e).1))
      rw [hr, hmk, pass_sel]
      exact passL_map _ _ _ _ fun y _ => rfl
    · rw [tell_sel, if_pos ⟨hok, hl1⟩]
      unfold tellQ
      rw [if_pos ⟨hok2, hl2⟩]
      have hd : dueQ (oneJ j i g A c) s2 e = mapL re0 (passO s.1.now (mkQ s.1 e).now (selL (QO i) (recQ j s e).1)) := by
        show passO s2.1.now (mkQ s2.1 e).now (recQ (oneJ j i g A c) s2 e).1 = _
        rw [hr, hmk, h.mkk]
        exact pass_map (re0_inj i) (re0_mono i) _ _ _ _ _ hdom fun y _ => rfl
      rw [hd, hr]
      unfold mapL reT
      rw [List.map_append, List.map_map, List.map_map, List.map_map, List.map_map]
      rfl
  · have hok2 : ¬ evOk (oneJ j i g A c) e := hok
    refine ⟨?_, ?_, ?_⟩
    · unfold codeQ
      rw [if_pos hok2]
      decide
    · unfold goQ
      rw [if_neg (fun h => hok h.1), if_neg (fun h => hok2 h.1)]
      exact h
    · rw [tell_sel, if_neg (fun h => hok h.1)]
      unfold tellQ
      rw [if_neg (fun h => hok2 h.1)]
      rfl
theorem one_run {j : Jb} {i : Nat} (hi : i < j.ops.length) (g : Int) (A : Option Addr) (c : Nat) : ∀ (l : List Ev) (s s2 : QS) (o o2 : List Ot) (r : QS × List Ot), SimO i s s2 → o2 = (o.filter fun o => QO i o.1).map reT →
    l.foldl (stepO j) (some (s, o)) = some r → ∃ r2, l.foldl (stepO (oneJ j i g A c)) (some (s2, o2)) = some r2 ∧ r2.2 = (r.2.filter fun o => QO i o.1).map reT
  | [], s, s2, o, o2, r, h, ho, h1 => by
    obtain rfl := Option.some.inj h1
    exact ⟨_, rfl, ho⟩
  | e :: l, s, s2, o, o2, r, h, ho, h1 => by
    rw [List.foldl_cons] at h1
    obtain ⟨y, hy⟩ := fold_none h1
    have c1 : codeQ j s e ≠ 3 := fun hc => by
      have : stepO j (some (s, o)) e = none := by show (if _ then _ else _) = _; rw [if_pos hc]
      rw [this] at hy; cases hy
    have e1 : stepO j (some (s, o)) e = some (goQ j s e, o ++ tellQ j s e) := by show (if _ then _ else _) = _; rw [if_neg c1]
    rw [e1] at h1
    obtain ⟨c2, hs, ht⟩ := one_step hi g A c h e c1
    have e2 : stepO (oneJ j i g A c) (some (s2, o2)) e = some (goQ (oneJ j i g A c) s2 e, o2 ++ tellQ (oneJ j i g A c) s2 e) := by show (if _ then _ else _) = _; rw [if_neg c2]
    rw [List.foldl_cons, e2]
    exact one_run hi g A c l _ _ _ _ r hs (by rw [List.filter_append, List.map_append, ho, ht]) h1
theorem one_job {j : Jb} (hj : jobP j) {i : Nat} (hi : i < j.ops.length) {g : Int} (hg1 : 1 ≤ g) (hg2 : g ≤ 64) (A : Option Addr) (c : Nat) : jobP (oneJ j i g A c) := by
  have h := hj.1
  refine ⟨⟨hg1, hg2, h.2.2.1, h.2.2.2.1, h.2.2.2.2.1, h.2.2.2.2.2.1, h.2.2.2.2.2.2.1, h.2.2.2.2.2.2.2.1, by show 1 ≤ 8; decide⟩, trivial, opsP_at hj.2 i hi, ?_⟩
  show idxP [] _ 0 < 0
  unfold idxP
  decide
theorem jobP_of_all {j : Jb} {l : List Ev} {o : List Ot} (h : allQ j l = some o) : jobP j := by
  unfold allQ at h
  split at h
  · assumption
  · cases h
/-- An operator alone tells what it tells among others. -/
theorem ops_law {j : Jb} {l : List Ev} {o : List Ot} (h : allQ j l = some o) {i : Nat} (hi : i < j.ops.length) {g : Int} (hg1 : 1 ≤ g) (hg2 : g ≤ 64) (A : Option Addr) (c : Nat) :
    ∃ o2, allQ (oneJ j i g A c) l = some o2 ∧ o2.map (otV FT (oneJ j i g A c)) = onlyL i (o.map (otV FT j)) := by
  have hj := jobP_of_all h
  unfold allQ at h ⊢
  rw [if_pos hj] at h
  rw [if_pos (one_job hj hi hg1 hg2 A c)]
  obtain ⟨r, hr, rfl⟩ := Option.map_eq_some_iff.1 h
  obtain ⟨r2, hr2, he⟩ := one_run hi g A c l (startQ j) (startQ (oneJ j i g A c)) [] [] r ⟨rfl, rfl⟩ rfl hr
  refine ⟨r2.2, by unfold runQ; rw [hr2]; rfl, ?_⟩
  rw [he]
  unfold onlyL
  rw [List.filter_map, List.map_map, List.map_map]
  have hf : r.2.filter ((fun o : Ou => decide (o.op = (i : Int))) ∘ otV FT j) = r.2.filter fun o => QO i o.1 := rfl
  rw [hf]
  refine List.map_congr_left fun o ho => ?_
  have hq : o.1.op = (i : Int) := of_decide_eq_true (List.mem_filter.1 ho).2
  show otV FT (oneJ j i g A c) (reT o) = { otV FT j o with op := 0 }
  have ha : aggJ (oneJ j i g A c) 0 = aggJ j o.1.op := by rw [hq]; rfl
  unfold otV reT re0
  dsimp only
  rw [ha]
end Go.Proofs.YtfojblbnhapedaaGreatDoor
