/- Contract of number at the text of a small number; the openings of a list of texts and of a list of bytes. Conditions: as each theorem states them. -/
import Derived.Test.YtfojblbnhapedaaGreatDoorZ6
import Derived.Test.YtfojblbnhapedaaGreatDoorX3
namespace Go.Proofs.YtfojblbnhapedaaGreatDoor
open Go.RowKit Go.Maps
set_option linter.unusedVariables false
set_option linter.unusedSimpArgs false

def opN (size : Int) : JOp := ⟨⟨#[110]⟩, 1, 1, size, 0⟩
def jobN (size : Int) (A : Option Addr) (c : Nat) : Jb := ⟨1, 1, 0, 0, [opN size], A, c⟩
theorem jobN_ok {size : Int} (h1 : 1 ≤ size) (h2 : size ≤ 1000000) (A : Option Addr) (c : Nat) : jobP (jobN size A c) := by
  have hn : jnamed ⟨#[110]⟩ := by decide +kernel
  refine ⟨⟨by show (1 : Int) ≤ 1; decide, by show (1 : Int) ≤ 64; decide, by show (1 : Int) ≤ 1; decide, by show (1 : Int) ≤ 16; decide, by show (0 : Int) ≤ 0; decide, by show (0 : Int) ≤ 1099511627776; decide, by show (0 : Int) ≤ 0; decide, by show (0 : Int) ≤ 1099511627776; decide, by show 1 ≤ 8; decide⟩, trivial, ⟨hn, by show (1 : Int) ≤ 1; decide, by show (1 : Int) ≤ 8; decide, ?_⟩, ?_⟩
  · show chkV 1 size 0 = 0
    unfold chkV plainB spanB
    rw [if_pos (.inl rfl), decide_eq_true h1, decide_eq_true (show size ≤ 1099511627776 by omega)]
    rfl
  · show idxP [] _ 0 < 0
    unfold idxP
    decide
/-- Marks of one source, which is at x. -/
structure MW (m : Mk) (x : Int) : Prop where
  n : m.n = 1
  b : m.bound = 0
  len : m.all.length = 16
  src : m.all.getD 0 (0, false) = (x, false)
  now : m.now = x
theorem getD_lt' {l : List Src} {k : Nat} (h : k < l.length) : l.getD k (0, false) = l[k] := by rw [List.getD_eq_getElem?_getD, List.getElem?_eq_getElem h]; rfl
theorem MW.tell {m : Mk} {x : Int} (h : MW m x) (u : Int) : MW (m.tell 0 u) (max x u) := by
  unfold Mk.tell
  rw [h.src]
  dsimp only
  unfold Mk.change
  have hl := h.len
  have hset : ∀ t : Src, ((m.all.set 0 t).take m.n) = [t] := fun t => by
    rw [h.n]
    cases ha : m.all with
    | nil => rw [ha] at hl; simp at hl
    | cons a l => simp
  by_cases hc : m.all.getD 0 (0, false) = (max x u, false)
  · rw [if_pos hc]
    rw [h.src] at hc
    have hx : x = max x u := (Prod.mk.inj hc).1
    rw [← hx]
    exact h
  · rw [if_neg hc]
    refine ⟨h.n, h.b, by show (m.all.set 0 _).length = 16; rw [List.length_set]; exact hl, ?_, ?_⟩
    · show (m.all.set 0 (max x u, false)).getD 0 (0, false) = _
      rw [getD_lt' (by rw [List.length_set]; omega), List.getElem_set_self]
    · dsimp only
      rw [hset]
      show (if (lstep (0, false) (max x u, false)).2 = true then max m.now (lstep (0, false) (max x u, false)).1 else m.now) = _
      unfold lstep
      rw [h.now]
      simp
theorem MW.start (size : Int) (A : Option Addr) (c : Nat) : MW (startQ (jobN size A c)).1 (-1125899906842624) := ⟨rfl, rfl, rfl, rfl, rfl⟩
theorem tot_strike {L : PL} (h : ND L) (p : Pl) : (val1 L p).length + tot (strike1 L p) = tot L := by
  induction L with
  | nil => rfl
  | cons y L ih =>
    have hn := List.nodup_cons.1 (show (y.1 :: L.map (·.1)).Nodup from h)
    by_cases e : y.1 = p
    · have h1 : strike1 (y :: L) p = L := by
        have h2 : strike1 L p = L := strike_out (fun z hz e2 => hn.1 (by rw [e, ← e2]; exact List.mem_map.2 ⟨z, hz, rfl⟩))
        unfold strike1 at h2 ⊢
        rw [List.filter_cons, if_neg (by simp [e]), h2]
      have h3 : val1 (y :: L) p = y.2 := by unfold val1; simp [e]
      rw [h1, h3]
      unfold tot
      simp
    · have h1 : strike1 (y :: L) p = y :: strike1 L p := by
        unfold strike1
        rw [List.filter_cons, if_pos (by simp [e])]
      have h3 : val1 (y :: L) p = val1 L p := by
        unfold val1
        rw [List.find?_cons]
        simp [e]
      rw [h1, h3]
      have := ih hn.2
      unfold tot at this ⊢
      simp only [List.map_cons, List.sum_cons]
      omega
/-- A record of a tumbling window makes one value more. -/
theorem apply_one {L : PL} (h : ND L) (p : Pl) (ws : List (Int × Int)) (hw : ws = if p ∈ L.map (·.1) then [(p.f, p.t)] else []) (x : Int) : tot (applyC L ⟨p, ws⟩ x).1 = tot L + 1 ∧ ∀ y ∈ (applyC L ⟨p, ws⟩ x).1, y ∈ L ∨ y.1 = p := by
  refine ⟨?_, fun y hy => (applyC_mem hy).imp id fun e => by rw [e]⟩
  subst hw
  by_cases hp : p ∈ L.map (·.1)
  · rw [if_pos hp]
    have hs := tot_strike h p
    have e1 : takeF L ⟨p, [(p.f, p.t)]⟩ 1 = (strike1 L p, val1 L p) := rfl
    unfold applyC
    show tot (strike1 (takeF L ⟨p, [(p.f, p.t)]⟩ 1).1 p ++ _) = _
    rw [e1]
    have e2 : strike1 (strike1 L p) p = strike1 L p := strike_out fun y hy => (strike1_mem.1 hy).2
    show tot (strike1 (strike1 L p) p ++ [(p, (takeF L ⟨p, [(p.f, p.t)]⟩ 1).2 ++ [x])]) = _
    rw [e1, e2, tot_app]
    unfold tot at hs ⊢
    simp
    omega
  · rw [if_neg hp]
    have e2 : strike1 L p = L := strike_out fun y hy e => hp (List.mem_map.2 ⟨y, hy, e⟩)
    unfold applyC
    show tot (strike1 L p ++ [(p, [] ++ [x])]) = _
    rw [e2, tot_app]
    unfold tot
    simp
/-- How many values outputs have. -/
def outN (o : List Ot) : Nat := (o.map fun x => x.2.1.length).sum
theorem outN_app (a b : List Ot) : outN (a ++ b) = outN a + outN b := by unfold outN; rw [List.map_append, List.sum_append]
theorem sum_perm {l l' : List Nat} (h : l.Perm l') : l.sum = l'.sum := by
  induction h with
  | nil => rfl
  | cons x _ ih => simp [ih]
  | swap x y l => simp; omega
  | trans _ _ h1 h2 => rw [h1, h2]
/-- What comes due, and what stays, have all values. -/
theorem pass_tot {L : PL} (h : ND L) (was now : Int) (hw : ∀ y ∈ L, ¬ y.1.t - 1 ≤ was) : outN ((passO was now L).map fun o => (o.1, o.2, false)) + tot (passL 0 now L) = tot L := by
  have h1 : outN ((passO was now L).map fun o => (o.1, o.2, false)) = ((L.filter fun y => dueB was now y.1).map fun y => y.2.length).sum := by
    unfold outN passO
    rw [List.map_map, List.map_map]
    have e : ((sortP ((L.filter fun y => dueB was now y.1).map (·.1))).map fun p => (val1 L p).length).sum = ((((L.filter fun y => dueB was now y.1).map (·.1))).map fun p => (val1 L p).length).sum := sum_perm ((sortP_perm _).map _)
    refine Eq.trans e ?_
    rw [List.map_map]
    congr 1
    refine List.map_congr_left fun y hy => ?_
    show (val1 L y.1).length = y.2.length
    rw [val1_at h (List.mem_filter.1 hy).1]
  rw [h1]
  have h2 : ∀ l : PL, (∀ y ∈ l, ¬ y.1.t - 1 ≤ was) → ((l.filter fun y => dueB was now y.1).map fun y => y.2.length).sum + tot (passL 0 now l) = tot l := by
    intro l
    induction l with
    | nil => exact fun _ => rfl
    | cons y l ih =>
      intro hl
      have ih := ih fun z hz => hl z (List.mem_cons_of_mem _ hz)
      have hy := hl y (List.mem_cons_self ..)
      unfold passL tot at ih ⊢
      rw [List.filter_cons, List.filter_cons]
      by_cases hn : y.1.t - 1 ≤ now
      · have e1 : dueB was now y.1 = true := by unfold dueB; simp [hn, hy]
        have e2 : goneB 0 now y.1 = true := by unfold goneB; simp; omega
        rw [if_pos e1, if_neg (by rw [e2]; decide)]
        simp only [List.map_cons, List.sum_cons]
        omega
      · have e1 : dueB was now y.1 = false := by unfold dueB; simp [hn]
        have e2 : goneB 0 now y.1 = false := by unfold goneB; simp; omega
        rw [if_neg (by rw [e1]; decide), if_pos (by rw [e2]; decide)]
        simp only [List.map_cons, List.sum_cons]
        omega
  exact h2 L hw
end Go.Proofs.YtfojblbnhapedaaGreatDoor
namespace Go.Proofs.YtfojblbnhapedaaGreatDoor
open Go.RowKit Go.Maps
set_option linter.unusedVariables false
set_option linter.unusedSimpArgs false

/-- What holds behind k records, the last one's time being a. -/
structure IW (size : Int) (A : Option Addr) (c : Nat) (s : QS) (o : List Ot) (x a : Int) (k : Nat) : Prop where
  mw : MW s.1 x
  good : GoodL (jobN size A c) s.2
  due : ∀ y ∈ s.2, ¬ y.1.t - 1 ≤ x
  fr : ∀ y ∈ s.2, y.1.f ≤ a
  len : s.2.length ≤ k
  tt : tot s.2 + outN o = k
  x1 : x ≤ a - 1
  lo : 0 ≤ a
  hi : a ≤ 1000000
  ag : ∀ y ∈ o, y.2.2 = false
theorem rec_step {size : Int} (h1 : 1 ≤ size) (h2 : size ≤ 1000000) {A : Option Addr} {c : Nat} {s : QS} {o : List Ot} {x a : Int} {k : Nat} (h : IW size A c s o x a k) (hk : k ≤ 60) (t : Int) (ht1 : a ≤ t) (ht2 : t ≤ 1000000) (key : ByteArray) (hkey : key.size ≤ 64) :
    codeQ (jobN size A c) s ⟨1, 0, t, key, 0⟩ ≠ 3 ∧ ∃ x', IW size A c (goQ (jobN size A c) s ⟨1, 0, t, key, 0⟩) (o ++ tellQ (jobN size A c) s ⟨1, 0, t, key, 0⟩) x' t (k + 1) := by
  have hj := jobN_ok h1 h2 A c
  have hlo := h.lo
  have hx1 := h.x1
  have hfl := flr_le t size h1
  have hok : evOk (jobN size A c) ⟨1, 0, t, key, 0⟩ := ⟨⟨by show (0 : Int) ≤ 0; decide, by show (0 : Int) < 1; decide, by show -1125899906842624 ≤ t; omega, by show t ≤ 1125899906842624; omega⟩, .inl ⟨rfl, hkey⟩⟩
  have hch : chsP (jobN size A c) s.2 key t s.1.now = [chgP (jobN size A c) s.2 key 0 (flr t size, flr t size + size)] := by
    unfold chsP
    show (List.range 1).flatMap _ = _
    have hr : List.range 1 = [0] := rfl
    rw [hr, List.flatMap_cons, List.flatMap_nil, List.append_nil]
    have hop : opsW (jobN size A c) 0 t = [(flr t size, flr t size + size)] := rfl
    rw [hop]
    have hcw : chwP (jobN size A c) s.2 key s.1.now 0 (flr t size, flr t size + size) = some (chgP (jobN size A c) s.2 key 0 (flr t size, flr t size + size)) := by
      unfold chwP
      rw [h.mw.now]
      exact if_neg (by show ¬ flr t size + size - 1 + 0 ≤ x; omega)
    rw [List.filterMap_cons, hcw]
    rfl
  have hcg : chgP (jobN size A c) s.2 key 0 (flr t size, flr t size + size) = ⟨⟨0, key, flr t size, flr t size + size⟩, if (⟨0, key, flr t size, flr t size + size⟩ : Pl) ∈ s.2.map (·.1) then [(flr t size, flr t size + size)] else []⟩ := by
    unfold chgP
    exact if_neg (by show ¬ (1 : Int) = 3; decide)
  have hrec : recQ (jobN size A c) s ⟨1, 0, t, key, 0⟩ = ((applyC s.2 (chgP (jobN size A c) s.2 key 0 (flr t size, flr t size + size)) 0).1, []) := by
    unfold recQ
    rw [if_pos rfl]
    dsimp only
    rw [hch]
    unfold recF
    rw [List.foldl_cons, List.foldl_nil]
    unfold recS
    dsimp only
    rw [if_neg (by rw [hcg, h.mw.now]; show ¬ flr t size + size - 1 ≤ x; omega)]
    rfl
  obtain ⟨ha1, ha2⟩ := apply_one h.good.nd ⟨0, key, flr t size, flr t size + size⟩ _ rfl 0
  rw [← hcg] at ha1 ha2
  have hlen : (recQ (jobN size A c) s ⟨1, 0, t, key, 0⟩).1.length ≤ k + 1 := by
    rw [hrec]
    have := applyC_len s.2 (chgP (jobN size A c) s.2 key 0 (flr t size, flr t size + size)) 0
    have := h.len
    dsimp only
    omega
  have hng : ¬ longQ (jobN size A c) s ⟨1, 0, t, key, 0⟩ := fun hh => by have := hh.2; omega
  have hgr := recQ_good hj h.good hok (by show i64 0; unfold i64; decide)
  have hmk : mkQ s.1 ⟨1, 0, t, key, 0⟩ = s.1.tell 0 (t - 0 - 1) := by
    unfold mkQ
    rw [if_pos rfl]
    dsimp only
    unfold Mk.see
    have ha : askV s.1 0 t = 0 := by
      unfold askV
      rw [h.mw.n, if_neg (by omega)]
    rw [if_pos ha, h.mw.b]
    rfl
  have hmw : MW (mkQ s.1 ⟨1, 0, t, key, 0⟩) (max x (t - 0 - 1)) := by rw [hmk]; exact h.mw.tell _
  have hdue : ∀ y ∈ (recQ (jobN size A c) s ⟨1, 0, t, key, 0⟩).1, ¬ y.1.t - 1 ≤ x := fun y hy => by
    rw [hrec] at hy
    rcases ha2 y hy with hh | hh
    · exact h.due y hh
    · rw [hh]; show ¬ flr t size + size - 1 ≤ x; omega
  have hfr : ∀ y ∈ (recQ (jobN size A c) s ⟨1, 0, t, key, 0⟩).1, y.1.f ≤ t := fun y hy => by
    rw [hrec] at hy
    rcases ha2 y hy with hh | hh
    · have := h.fr y hh; omega
    · rw [hh]; show flr t size ≤ t; omega
  refine ⟨?_, max x (t - 0 - 1), ?_⟩
  · unfold codeQ
    rw [if_neg (fun hh => hh hok), if_neg hng]
    decide
  · have hgo : goQ (jobN size A c) s ⟨1, 0, t, key, 0⟩ = nxtQ (jobN size A c) s ⟨1, 0, t, key, 0⟩ := by unfold goQ; rw [if_pos ⟨hok, hng⟩]
    have hte : tellQ (jobN size A c) s ⟨1, 0, t, key, 0⟩ = (dueQ (jobN size A c) s ⟨1, 0, t, key, 0⟩).map (fun o => (o.1, o.2, false)) := by
      unfold tellQ
      rw [if_pos ⟨hok, hng⟩, hrec]
      rfl
    have hnx : (nxtQ (jobN size A c) s ⟨1, 0, t, key, 0⟩).2 = passL 0 (mkQ s.1 ⟨1, 0, t, key, 0⟩).now (recQ (jobN size A c) s ⟨1, 0, t, key, 0⟩).1 := rfl
    have hpt := pass_tot hgr.nd s.1.now (mkQ s.1 ⟨1, 0, t, key, 0⟩).now (by rw [h.mw.now]; exact hdue)
    rw [hgo, hte]
    refine ⟨hmw, hgr.pass _ _, fun y hy => ?_, fun y hy => hfr y (List.mem_filter.1 hy).1, ?_, ?_, by omega, by omega, ht2, fun y hy => ?_⟩
    · have hq := (List.mem_filter.1 hy).2
      unfold goneB at hq
      rw [hmw.now] at hq
      have hl0 : (jobN size A c).late = 0 := rfl
      rw [hl0] at hq
      simp at hq
      omega
    · rw [hnx]
      exact Nat.le_trans (List.length_filter_le _ _) hlen
    · rw [hnx, outN_app]
      have hd : dueQ (jobN size A c) s ⟨1, 0, t, key, 0⟩ = passO s.1.now (mkQ s.1 ⟨1, 0, t, key, 0⟩).now (recQ (jobN size A c) s ⟨1, 0, t, key, 0⟩).1 := rfl
      rw [hd]
      have htr : tot (recQ (jobN size A c) s ⟨1, 0, t, key, 0⟩).1 = tot s.2 + 1 := by rw [hrec]; exact ha1
      have := h.tt
      omega
    · rcases List.mem_append.1 hy with hh | hh
      · exact h.ag y hh
      · obtain ⟨z, _, rfl⟩ := List.mem_map.1 hh
        rfl
/-- Records in order. -/
def InOrd : Int → List Ev → Prop
  | _, [] => True
  | a, e :: l => e.k = 1 ∧ e.src = 0 ∧ a ≤ e.t ∧ e.t ≤ 1000000 ∧ e.key.size ≤ 64 ∧ e.v = 0 ∧ InOrd e.t l
def lastT : Int → List Ev → Int
  | a, [] => a
  | _, e :: l => lastT e.t l
theorem recs_run {size : Int} (h1 : 1 ≤ size) (h2 : size ≤ 1000000) {A : Option Addr} {c : Nat} : ∀ (l : List Ev) (s : QS) (o : List Ot) (x a : Int) (k : Nat), IW size A c s o x a k → k + l.length ≤ 60 → InOrd a l →
    ∃ s' o' x', l.foldl (stepO (jobN size A c)) (some (s, o)) = some (s', o') ∧ IW size A c s' o' x' (lastT a l) (k + l.length)
  | [], s, o, x, a, k, h, _, _ => ⟨s, o, x, rfl, h⟩
  | e :: l, s, o, x, a, k, h, hk, hio => by
    obtain ⟨ek, esrc, et, ekey, ev⟩ := e
    obtain ⟨g1, g2, g3, g4, g5, g6, g7⟩ := hio
    dsimp only at g1 g2 g3 g4 g5 g6 g7
    subst g1 g2 g6
    rw [List.length_cons] at hk
    obtain ⟨hc, x', hi⟩ := rec_step h1 h2 h (by omega) et g3 g4 ekey g5
    obtain ⟨s', o', x'', hf, hi'⟩ := recs_run h1 h2 l _ _ x' et (k + 1) hi (by omega) g7
    refine ⟨s', o', x'', ?_, ?_⟩
    · rw [List.foldl_cons]
      show List.foldl _ (if _ then _ else _) l = _
      rw [if_neg hc]
      exact hf
    · rw [List.length_cons, show k + (l.length + 1) = k + 1 + l.length by omega]
      exact hi'
/-- All records are told. -/
theorem whole_law {size : Int} (h1 : 1 ≤ size) (h2 : size ≤ 1000000) (A : Option Addr) (c : Nat) {l : List Ev} (hl : l.length ≤ 60) (hio : InOrd 0 l) :
    ∃ o, allQ (jobN size A c) (l ++ [⟨2, 0, lastT 0 l + size, ByteArray.empty, 0⟩]) = some o ∧ outN o = l.length ∧ ∀ y ∈ o, y.2.2 = false := by
  have hj := jobN_ok h1 h2 A c
  have h0 : IW size A c (startQ (jobN size A c)) [] (-1125899906842624) 0 0 := ⟨MW.start size A c, good_nil _, (fun y hy => by cases hy), (fun y hy => by cases hy), Nat.le_refl _, rfl, by decide, Int.le_refl _, by decide, fun y hy => by cases hy⟩
  obtain ⟨s, o, x, hf, hi⟩ := recs_run h1 h2 l _ _ _ 0 0 h0 (by omega) hio
  rw [Nat.zero_add] at hi
  have hok : evOk (jobN size A c) ⟨2, 0, lastT 0 l + size, ByteArray.empty, 0⟩ := by
    have := hi.lo
    have := hi.hi
    exact ⟨⟨by show (0 : Int) ≤ 0; decide, by show (0 : Int) < 1; decide, by show -1125899906842624 ≤ lastT 0 l + size; omega, by show lastT 0 l + size ≤ 1125899906842624; omega⟩, .inr (.inl ⟨rfl, rfl, rfl⟩)⟩
  have hrec : recQ (jobN size A c) s ⟨2, 0, lastT 0 l + size, ByteArray.empty, 0⟩ = (s.2, []) := rec_none (by show ¬ (2 : Int) = 1; decide)
  have hng : ¬ longQ (jobN size A c) s ⟨2, 0, lastT 0 l + size, ByteArray.empty, 0⟩ := fun hh => absurd hh.1 (by show ¬ (2 : Int) = 1; decide)
  have hmk : mkQ s.1 ⟨2, 0, lastT 0 l + size, ByteArray.empty, 0⟩ = s.1.tell 0 (lastT 0 l + size) := by
    unfold mkQ
    rw [if_neg (show ¬ (2 : Int) = 1 by decide), if_pos rfl]
    dsimp only
    unfold Mk.told
    have ha : askV s.1 0 (lastT 0 l + size) = 0 := by
      unfold askV
      have := hi.lo
      have := hi.hi
      rw [hi.mw.n, if_neg (by omega)]
    rw [if_pos ha]
    rfl
  have hmw : MW (mkQ s.1 ⟨2, 0, lastT 0 l + size, ByteArray.empty, 0⟩) (max x (lastT 0 l + size)) := by rw [hmk]; exact hi.mw.tell _
  have hte : tellQ (jobN size A c) s ⟨2, 0, lastT 0 l + size, ByteArray.empty, 0⟩ = (passO s.1.now (mkQ s.1 ⟨2, 0, lastT 0 l + size, ByteArray.empty, 0⟩).now s.2).map (fun o => (o.1, o.2, false)) := by
    unfold tellQ dueQ
    rw [if_pos ⟨hok, hng⟩, hrec]
    rfl
  have hpt := pass_tot hi.good.nd s.1.now (mkQ s.1 ⟨2, 0, lastT 0 l + size, ByteArray.empty, 0⟩).now (by rw [hi.mw.now]; exact hi.due)
  have hnil : passL 0 (mkQ s.1 ⟨2, 0, lastT 0 l + size, ByteArray.empty, 0⟩).now s.2 = [] := by
    unfold passL
    rw [List.filter_eq_nil_iff]
    intro y hy hq
    have hp := hi.good.pn y hy
    have hf := hi.fr y hy
    obtain ⟨i, hil, hio2⟩ := hp.op
    have hi0 : i = 0 := by have : i < 1 := hil; omega
    subst hi0
    have hlen := hp.len (by rw [hio2]; show ¬ (1 : Int) = 3; decide)
    have hsz : sizeOfW (jobN size A c) y.1.op = size := by rw [hio2]; rfl
    rw [hsz] at hlen
    unfold goneB at hq
    rw [hmw.now] at hq
    simp at hq
    omega
  rw [hnil] at hpt
  refine ⟨o ++ tellQ (jobN size A c) s ⟨2, 0, lastT 0 l + size, ByteArray.empty, 0⟩, ?_, ?_, fun y hy => ?_⟩
  · unfold allQ
    rw [if_pos hj]
    unfold runQ
    rw [List.foldl_append, hf]
    show Option.map _ (if _ then _ else _) = _
    rw [if_neg (by unfold codeQ; rw [if_neg (fun hh => hh hok), if_neg hng]; decide)]
    rfl
  · rw [outN_app, hte]
    have h3 := hi.tt
    have h4 : tot ([] : PL) = 0 := rfl
    omega
  · rcases List.mem_append.1 hy with hh | hh
    · exact hi.ag y hh
    · rw [hte] at hh
      obtain ⟨z, _, rfl⟩ := List.mem_map.1 hh
      rfl
end Go.Proofs.YtfojblbnhapedaaGreatDoor
namespace Go.Proofs.YtfojblbnhapedaaGreatDoor
open Go.ChangeShapes Go.WideShapes Go.ChangeAt Go.RowKit Go.Joins Go.Maps
set_option linter.unusedVariables false
set_option linter.unusedSimpArgs false

/-- The number that the first bytes are. -/
def numP (s : ByteArray) : Nat → Int
  | 0 => 0
  | i + 1 => 10 * numP s i + (bAt s i : Int) - 48
theorem num_all : ∀ m : Nat, m < 100 → (num m).size ≤ 2 ∧ numP (num m) (num m).size = m := by decide +kernel
theorem numP_bd (s : ByteArray) : ∀ i, i ≤ 2 → -1000 ≤ numP s i ∧ numP s i ≤ 100000 := by
  intro i hi
  have hb : ∀ k, bAt s k ≤ 255 := fun k => by unfold bAt; exact Nat.le_of_lt_succ (UInt8.toNat_lt _)
  have h0 := hb 0
  have h1 := hb 1
  have : i = 0 ∨ i = 1 ∨ i = 2 := by omega
  rcases this with rfl | rfl | rfl
  · show -1000 ≤ (0 : Int) ∧ (0 : Int) ≤ 100000; omega
  · show -1000 ≤ 10 * (0 : Int) + (bAt s 0 : Int) - 48 ∧ 10 * (0 : Int) + (bAt s 0 : Int) - 48 ≤ 100000; omega
  · show -1000 ≤ 10 * (10 * (0 : Int) + (bAt s 0 : Int) - 48) + (bAt s 1 : Int) - 48 ∧ 10 * (10 * (0 : Int) + (bAt s 0 : Int) - 48) + (bAt s 1 : Int) - 48 ≤ 100000; omega
set_option maxRecDepth 100000 in
set_option maxHeartbeats 4000000 in
theorem numb_any (s : ByteArray) (hs : s.size ≤ 2) (w : World) : Calls Tryz.prog 19 #[.string s] w fun e w' => e = .returned (.int .i64 (numP s s.size)) ∧ w = w' := by
  go_enter Tryz.func19, Tryz.ntmps19
  go_wp2_with (fail)
  go_loopw [3, 4] (fun v i wr => ∃ k : Nat, k ≤ s.size ∧ i = .int .i64 k ∧ v = .int .i64 (numP s k) ∧ wr = w) (fun _ i _ => s.size - (intOf i).toNat)
  case atStart => exact ⟨0, Nat.zero_le _, rfl, rfl, rfl⟩
  case round =>
    obtain ⟨k, hk, rfl, rfl, rfl⟩ := hrel
    by_cases hlt : k < s.size
    · have hb := bAt_get hlt
      have hbd := numP_bd s k (by omega)
      have hb2 : bAt s k ≤ 255 := by unfold bAt; exact Nat.le_of_lt_succ (UInt8.toNat_lt _)
      have hn : numP s (k + 1) = 10 * numP s k + (bAt s k : Int) - 48 := rfl
      have HNN := Lib.hid hn
      have hm : (10 : Int) * numP s k ≤ 1000000 := by omega
      generalize hq : numP s k = nk at *
      clear hq hn
      go_wp2_with (fail)
      exact ⟨⟨k + 1, hlt, by push_cast; rfl, by rw [HNN.out, hb], trivial⟩, by simp only [intOf]; omega⟩
    · have hke : k = s.size := by omega
      subst hke
      go_wp2_with (fail)
      go_ret
      exact ⟨rfl, rfl⟩
/-- A slice at A reads as the texts l. -/
def RdS (w : World) (A : Option Addr) (l : List ByteArray) : Prop :=
  (0 < l.length → ∃ b off, A = some ⟨b, off, none⟩ ∧ b < w.heap.size ∧ ∀ i (h : i < l.length), w.cell? ⟨b, off + i, none⟩ = some (.string l[i])) ∧ ∀ s ∈ l, okN s
theorem RdS.below {w w' : World} {A : Option Addr} {l : List ByteArray} (h : RdS w A l) (k : Below w.heap.size w w') : RdS w' A l := by
  refine ⟨fun hl => ?_, h.2⟩
  obtain ⟨b, off, rfl, hb, hc⟩ := h.1 hl
  exact ⟨b, off, rfl, Nat.lt_of_lt_of_le hb k.size, fun i hi => (k.cell hb).trans (hc i hi)⟩
/-- A slice at A reads as the bytes l. -/
def RdU (w : World) (A : Option Addr) (l : List Int) : Prop :=
  (0 < l.length → ∃ b off, A = some ⟨b, off, none⟩ ∧ b < w.heap.size ∧ ∀ i (h : i < l.length), w.cell? ⟨b, off + i, none⟩ = some (.int .u8 l[i])) ∧ ∀ x ∈ l, 0 ≤ x ∧ x ≤ 255
theorem RdU.below {w w' : World} {A : Option Addr} {l : List Int} (h : RdU w A l) (k : Below w.heap.size w w') : RdU w' A l := by
  refine ⟨fun hl => ?_, h.2⟩
  obtain ⟨b, off, rfl, hb, hc⟩ := h.1 hl
  exact ⟨b, off, rfl, Nat.lt_of_lt_of_le hb k.size, fun i hi => (k.cell hb).trans (hc i hi)⟩
theorem q5 : Tryz.prog.cellsOf 5 = 1 := by kernel_rfl
section
variable {H : Type} {enc : TypeId × Value → H} {w : World} {base : Nat} {sp : Nat → Bool} {held : Bool}
set_option maxRecDepth 100000 in
theorem open_strs {r : Reach} {b0 : Nat} {v : Value} {d : DataW H} {p : List MemPlace} (hv : Value.okWide Tryz.prog w r b0 43 v) (h : DataW.Trod enc Tryz.prog w base sp held 43 v d p) : ∃ A c, ∃ l : List ByteArray, v = .slice A l.length c ∧ RdS w A l ∧ l.length ≤ c ∧ c ≤ 9223372036854775807 := by
  obtain ⟨a0, len0, cap0, rfl⟩ := okWide_slice Tryz.underlying43 hv
  obtain ⟨fuel, hf⟩ := h
  rcases DataW.trod_slice Tryz.underlying43 hf with ⟨h0, _⟩ | ⟨a, len, cap, elems, rest, n1, _, h0, _, _, hlc, hcm, hel, hx, _, _⟩
  · have h0 : Value.slice a0 len0 cap0 = .slice none 0 0 := by simpa [Value.cells] using h0
    rw [h0]
    exact ⟨none, 0, [], rfl, ⟨fun hl => absurd hl (by simp), fun o ho => absurd ho (by simp)⟩, by simp, by simp⟩
  have h0 : Value.slice a0 len0 cap0 = .slice (some a) len cap := by simpa [Value.cells] using h0
  rw [h0]
  rw [q9] at hx
  have each : ∀ i, ∃ o : ByteArray, i < len → okN o ∧ w.cell? (a.add (i * 1)) = some (.string o) := by
    intro i
    by_cases hi : i < len
    · have h1 := hx i hi
      rw [List.getElem?_eq_getElem (by omega)] at h1
      obtain ⟨cs, hc, ht⟩ := Option.bind_eq_some_iff.1 h1
      obtain ⟨o, rfl, _, hk⟩ := DataW.trod_string Tryz.underlying9 ht
      refine ⟨o, fun _ => ⟨by unfold okN; simp only [maxLen] at hk; omega, ?_⟩⟩
      obtain ⟨_, _, hcell⟩ := World.cells?_some hc
      have := hcell 0 (by simp)
      rw [addr_add_add] at this
      exact this
    · exact ⟨ByteArray.empty, fun h => absurd h hi⟩
  obtain ⟨q, hq⟩ : ∃ q : Nat → ByteArray, ∀ i, i < len → okN (q i) ∧ w.cell? (a.add (i * 1)) = some (.string (q i)) := ⟨fun i => Classical.choose (each i), fun i => Classical.choose_spec (each i)⟩
  have hlen : ((List.range len).map q).length = len := by simp
  refine ⟨some a, cap, (List.range len).map q, by rw [hlen], ⟨fun hn => ?_, fun o ho => ?_⟩, by rw [hlen]; exact hlc, by simp only [maxLen] at hcm; omega⟩
  · rw [hlen] at hn
    have p1 := (hq 0 hn).2
    have hs := World.cell?_spot p1
    obtain ⟨b, off, spt⟩ := a
    have hs : spt = none := by simpa [Addr.add] using hs
    subst hs
    refine ⟨b, off, rfl, World.block_lt_of_cell? w _ p1, fun i hi => ?_⟩
    have hg : ((List.range len).map q)[i] = q i := by simp
    rw [hg]
    rw [hlen] at hi
    have h2 := (hq i hi).2
    have e : (⟨b, off, none⟩ : Addr).add (i * 1) = ⟨b, off + i, none⟩ := by simp [Addr.add_lit]
    rw [e] at h2
    exact h2
  · obtain ⟨i, hi, rfl⟩ := List.mem_map.1 ho
    exact (hq i (List.mem_range.1 hi)).1
set_option maxRecDepth 100000 in
theorem open_u8s {r : Reach} {b0 : Nat} {v : Value} {d : DataW H} {p : List MemPlace} (hv : Value.okWide Tryz.prog w r b0 44 v) (h : DataW.Trod enc Tryz.prog w base sp held 44 v d p) : ∃ A c, ∃ l : List Int, v = .slice A l.length c ∧ RdU w A l ∧ l.length ≤ c ∧ c ≤ 9223372036854775807 := by
  obtain ⟨a0, len0, cap0, rfl⟩ := okWide_slice Tryz.underlying44 hv
  obtain ⟨fuel, hf⟩ := h
  rcases DataW.trod_slice Tryz.underlying44 hf with ⟨h0, _⟩ | ⟨a, len, cap, elems, rest, n1, _, h0, _, _, hlc, hcm, hel, hx, _, _⟩
  · have h0 : Value.slice a0 len0 cap0 = .slice none 0 0 := by simpa [Value.cells] using h0
    rw [h0]
    exact ⟨none, 0, [], rfl, ⟨fun hl => absurd hl (by simp), fun o ho => absurd ho (by simp)⟩, by simp, by simp⟩
  have h0 : Value.slice a0 len0 cap0 = .slice (some a) len cap := by simpa [Value.cells] using h0
  rw [h0]
  rw [q5] at hx
  have each : ∀ i, ∃ o : Int, i < len → (0 ≤ o ∧ o ≤ 255) ∧ w.cell? (a.add (i * 1)) = some (.int .u8 o) := by
    intro i
    by_cases hi : i < len
    · have h1 := hx i hi
      rw [List.getElem?_eq_getElem (by omega)] at h1
      obtain ⟨cs, hc, ht⟩ := Option.bind_eq_some_iff.1 h1
      obtain ⟨o, rfl, _, hk⟩ := DataW.trod_int Tryz.underlying5 ht
      have hb : 0 ≤ o ∧ o ≤ 255 := by
        simpa [Lit.wf, IntKind.min, IntKind.max, IntKind.signed, IntKind.bits] using hk
      refine ⟨o, fun _ => ⟨hb, ?_⟩⟩
      obtain ⟨_, _, hcell⟩ := World.cells?_some hc
      have := hcell 0 (by simp)
      rw [addr_add_add] at this
      exact this
    · exact ⟨0, fun h => absurd h hi⟩
  obtain ⟨q, hq⟩ : ∃ q : Nat → Int, ∀ i, i < len → (0 ≤ q i ∧ q i ≤ 255) ∧ w.cell? (a.add (i * 1)) = some (.int .u8 (q i)) := ⟨fun i => Classical.choose (each i), fun i => Classical.choose_spec (each i)⟩
  have hlen : ((List.range len).map q).length = len := by simp
  refine ⟨some a, cap, (List.range len).map q, by rw [hlen], ⟨fun hn => ?_, fun o ho => ?_⟩, by rw [hlen]; exact hlc, by simp only [maxLen] at hcm; omega⟩
  · rw [hlen] at hn
    have p1 := (hq 0 hn).2
    have hs := World.cell?_spot p1
    obtain ⟨b, off, spt⟩ := a
    have hs : spt = none := by simpa [Addr.add] using hs
    subst hs
    refine ⟨b, off, rfl, World.block_lt_of_cell? w _ p1, fun i hi => ?_⟩
    have hg : ((List.range len).map q)[i] = q i := by simp
    rw [hg]
    rw [hlen] at hi
    have h2 := (hq i hi).2
    have e : (⟨b, off, none⟩ : Addr).add (i * 1) = ⟨b, off + i, none⟩ := by simp [Addr.add_lit]
    rw [e] at h2
    exact h2
  · obtain ⟨i, hi, rfl⟩ := List.mem_map.1 ho
    exact (hq i (List.mem_range.1 hi)).1
end
end Go.Proofs.YtfojblbnhapedaaGreatDoor
