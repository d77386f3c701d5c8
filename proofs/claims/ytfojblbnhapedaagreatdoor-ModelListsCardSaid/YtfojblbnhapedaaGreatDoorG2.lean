/- Contract of model.changes. Conditions: as each theorem states them. -/
import Derived.Test.YtfojblbnhapedaaGreatDoorT1
import Derived.Deep.Cut
import Derived.Deep.CutRange
import Derived.Deep.LoopGhost
namespace Go.Proofs.YtfojblbnhapedaaGreatDoor
open Go.RowKit Go.Maps
set_option linter.unusedVariables false
set_option linter.unusedSimpArgs false

instance : DecidableEq Pl := fun a b => decidable_of_iff (a.op = b.op ∧ a.key = b.key ∧ a.f = b.f ∧ a.t = b.t) (by cases a; cases b; simp)
instance (M : Md) (x : Pl) : Decidable (M.has x) := by unfold Md.has; infer_instance
/-- What holds of every model's open windows: no place twice, no two windows of an operator and a key begin alike. -/
structure OkL (M : Md) : Prop where
  nd : (M.Lp.map (·.1)).Nodup
  dist : ∀ (op : Int) (key : ByteArray), DistF (pickW op key M.Lp)
  len : M.Lp.length ≤ 1024
/-- The change that a window of operator o makes, which is not gone. -/
def chG (M : Md) (key : ByteArray) (o : Nat) (w : Int × Int) : Chg :=
  if (M.j.ops.getD o zeroP).k = 3 then ⟨⟨o, key, (mergeV (winsOf M o key) w).1.1, (mergeV (winsOf M o key) w).1.2⟩, (mergeV (winsOf M o key) w).2.1⟩ else ⟨⟨o, key, w.1, w.2⟩, if M.has ⟨o, key, w.1, w.2⟩ then [w] else []⟩
/-- What a window of operator o makes of an event with a key. -/
def chW (M : Md) (key : ByteArray) (was : Int) (o : Nat) (w : Int × Int) : Option Chg :=
  if w.2 - 1 + M.j.late ≤ was then none else some (chG M key o w)
def chWs (M : Md) (key : ByteArray) (was : Int) (o : Nat) (ws : List (Int × Int)) : List Chg := ws.filterMap (chW M key was o)
def drW (M : Md) (was : Int) (ws : List (Int × Int)) : Nat := (ws.filter fun w => decide (w.2 - 1 + M.j.late ≤ was)).length
def opW (M : Md) (t : Int) (o : Nat) : List (Int × Int) := winsL (M.j.ops.getD o zeroP).k (M.j.ops.getD o zeroP).s (M.j.ops.getD o zeroP).l t
def chO (M : Md) (key : ByteArray) (t was : Int) (n : Nat) : List Chg := (List.range n).flatMap fun o => chWs M key was o (opW M t o)
def drO (M : Md) (t was : Int) : Nat → Nat
  | 0 => 0
  | n + 1 => drO M t was n + drW M was (opW M t n)
theorem chO_succ (M : Md) (key : ByteArray) (t was : Int) (n : Nat) : chO M key t was (n + 1) = chO M key t was n ++ chWs M key was n (opW M t n) := by
  unfold chO
  rw [List.range_succ, List.flatMap_append]
  simp
/-- The state of the walk: the changes so far. -/
def ChSt (w wr : World) (ev : Array Value) (v : Value) (l : List Chg) : Prop :=
  (∃ xs, wr.ownsRow w.heap.size 134 5 v l.length xs ∧ ChsAt wr xs l) ∧ Below w.heap.size w wr ∧ wr.heap[w.heap.size]? = some (Obj.cells ev 26)
theorem ChSt.below {w wr w' : World} {ev : Array Value} {v : Value} {l : List Chg} (h : ChSt w wr ev v l) (k : Below wr.heap.size wr w') : ChSt w w' ev v l := by
  obtain ⟨⟨xs, h1, h2⟩, h3, h4⟩ := h
  exact ⟨⟨xs, own_below h1 k, ChsAt.kw (S := fun _ => False) (Kw.ofBelow k) (fun _ _ _ h => h) l xs h2⟩, bl_then h3 k, (k.block _ (Array.getElem?_eq_some_iff.1 h4).1).trans h4⟩
/-- The blocks that hold no changes stay. -/
def Ke (w w' : World) : Prop := Kw (fun b => ∃ cur, w.heap[b]? = some (Obj.cells cur 134)) w w'
theorem Ke.refl (w : World) : Ke w w := Kw.refl _ w
theorem Ke.below {a w w' : World} (h : Ke a w) (k : Below w.heap.size w w') : Ke a w' := h.trans (Kw.ofBelow k)
theorem Ke.grown {a w w' : World} {row : Option Nat} (h : Ke a w) (g : w.grownBy w' row) (hr : ∀ k, row = some k → ∃ cur, w.heap[k]? = some (Obj.cells cur 134)) : Ke a w' := by
  have h : Kw _ a w := h
  refine ⟨g.os.trans h.os, g.tape.trans h.tape, g.output.trans h.output, Nat.le_trans h.size g.size, fun i hi hs => ?_⟩
  have hb := h.block i hi hs
  have hne : some i ≠ row := fun e => by
    obtain ⟨cur, hc⟩ := hr i e.symm
    exact hs ⟨cur, hb.symm.trans hc⟩
  exact (g.block i (Nat.lt_of_lt_of_le hi h.size) hne).trans hb
theorem Ke.keep {a w : World} (h : Ke a w) {b : Nat} {cs : Array Value} {t : TypeId} (hb : a.heap[b]? = some (Obj.cells cs t)) (ht : t ≠ 134) : w.heap[b]? = some (Obj.cells cs t) := by
  have h : Kw _ a w := h
  refine (h.block b (Array.getElem?_eq_some_iff.1 hb).1 (fun ⟨cur, hc⟩ => ?_)).trans hb
  rw [hb] at hc
  injection hc with hc
  injection hc with _ h2
  exact ht h2
theorem opsP_at {l : List JOp} : ∀ {n : Nat}, opsP l n → ∀ i, i < n → mayP (l.getD i zeroP)
  | 0, _, i, h => absurd h (Nat.not_lt_zero _)
  | n + 1, hp, i, h => by
    obtain ⟨h1, h2, h3⟩ := hp
    by_cases e : i = n
    · subst e; exact h2
    · exact opsP_at h1 i (by omega)
theorem drW_snoc (M : Md) (was : Int) (ws : List (Int × Int)) (j : Nat) (h : j < ws.length) : drW M was (ws.take (j + 1)) = drW M was (ws.take j) + (if (ws[j]).2 - 1 + M.j.late ≤ was then 1 else 0) := by
  unfold drW
  rw [List.take_succ_eq_append_getElem h, List.filter_append, List.length_append]
  congr 1
  rw [List.filter_cons]
  split <;> simp_all
theorem chWs_snoc (M : Md) (key : ByteArray) (was : Int) (o : Nat) (ws : List (Int × Int)) (j : Nat) (h : j < ws.length) : chWs M key was o (ws.take (j + 1)) = chWs M key was o (ws.take j) ++ (match chW M key was o ws[j] with | some c => [c] | none => []) := by
  unfold chWs
  rw [List.take_succ_eq_append_getElem h, List.filterMap_append]
  congr 1
  rw [List.filterMap_cons]
  cases chW M key was o ws[j] <;> rfl
theorem winsL_bd {K S L t : Int} (hq : chkV K S L = 0) (h1 : -1125899906842624 ≤ t) (h2 : t ≤ 1125899906842624) :
    (winsL K S L t).length ≤ 100 ∧ ∀ p ∈ winsL K S L t, (-9223372036854775808 ≤ p.1 ∧ p.1 < 9223372036854775808) ∧ -1000000000000000000 ≤ p.2 ∧ p.2 ≤ 1000000000000000000 := by
  unfold chkV at hq
  unfold winsL
  by_cases e1 : K = 1
  · rw [if_pos (.inl e1)] at hq
    have hS : plainB S L = true := by
      cases hc : plainB S L
      · rw [hc] at hq; simp at hq
      · rfl
    have hb := plainB_bd hS
    have hf := flr_le t S hb.1
    rw [if_pos e1]
    refine ⟨by simp, fun p hp => ?_⟩
    rw [List.mem_singleton.1 hp]
    dsimp only
    omega
  · by_cases e2 : K = 2
    · rw [if_neg (by omega), if_pos e2] at hq
      have hS : slidB S L = true := by
        cases hc : slidB S L
        · rw [hc] at hq; simp at hq
        · rfl
      have hb := slidB_bd hS
      rw [if_neg e1, if_pos e2]
      have hn := slN_le t S L hb.2.2.1 hb.1 hb.2.2.2.2
      refine ⟨by simp [slL]; omega, fun p hp => ?_⟩
      obtain ⟨i, hi, rfl⟩ := List.mem_map.1 hp
      have hi := List.mem_range.1 hi
      have hle := (slF_lt t S L hb.2.2.1 hb.1 i).1 hi
      have hf := flr_le (t - S) L hb.2.2.1
      have hil : (0 : Int) ≤ (i : Int) * L := Int.mul_nonneg (by omega) (by omega)
      have hge : slF t S L i = flr (t - S) L + L + (i : Int) * L := rfl
      dsimp only
      omega
    · by_cases e3 : K = 3
      · rw [if_pos (.inr e3)] at hq
        have hS : plainB S L = true := by
          cases hc : plainB S L
          · rw [hc] at hq; simp at hq
          · rfl
        have hb := plainB_bd hS
        rw [if_neg e1, if_neg e2]
        refine ⟨by simp, fun p hp => ?_⟩
        rw [List.mem_singleton.1 hp]
        dsimp only
        omega
      · rw [if_neg (by omega), if_neg e2] at hq
        omega
theorem drW_le (M : Md) (was : Int) (ws : List (Int × Int)) : drW M was ws ≤ ws.length := List.length_filter_le _ _
theorem drO_le (M : Md) (was t : Int) (h : ∀ i, i < M.j.ops.length → (opW M t i).length ≤ 100) : ∀ n, n ≤ M.j.ops.length → drO M t was n ≤ 100 * n
  | 0, _ => Nat.le_refl _
  | n + 1, hn => by
    have h1 := drO_le M was t h n (by omega)
    have h2 := drW_le M was (opW M t n)
    have h3 := h n (by omega)
    unfold drO
    omega
theorem own_rdW {w : World} {B : Nat} {v : Value} {l : List (Int × Int)} (h : w.ownsRow B 54 2 v l.length (wcells l)) : ∃ A c, v = .slice A l.length c ∧ l.length ≤ c ∧ RdW w w.heap.size A l := by
  rcases h.2 with ⟨h0, h1⟩ | ⟨g, c, cur, h0, hB, hg, hr⟩
  · have hl : l.length = 0 := by
      have := h.1
      have := wcells_len' l
      omega
    have hl0 : l = [] := List.eq_nil_of_length_eq_zero hl
    subst hl0
    exact ⟨none, 0, h0, Nat.le_refl _, by simp, fun h => absurd h (by simp)⟩
  · refine ⟨some ⟨g, 0, none⟩, c, h0, hr.1, ?_, fun hl => ⟨g, 0, rfl, (Array.getElem?_eq_some_iff.1 hg).1, fun i hi => ?_⟩⟩
    · have := hr.1
      have := hr.2.1
      unfold maxLen at this
      omega
    · have hw := wcells_at' l i hi
      have hh := hr.2.2.2
      have hg2 : l.getD i (0, 0) = l[i] := by rw [List.getD_eq_getElem?_getD, List.getElem?_eq_getElem hi]; rfl
      rw [hg2, Nat.zero_add]
      obtain ⟨a1, a2⟩ := hw
      rw [← hh, List.getElem?_take_of_lt (by omega), Array.getElem?_toList] at a1 a2
      exact ⟨(cell_of hg _).trans a1, (cell_of hg _).trans a2⟩
theorem windows_rd (B : Lo) (M : Md) (op : Int) (key : ByteArray) (w : World) (h : MdAt w B M) (ol : OkL M) :
    Calls Tryz.prog 44 #[ptrV B.bm, .int .i64 op, .string key] w fun e w' => ∃ A c, e = .returned (.slice A (winsOf M op key).length c) ∧ (winsOf M op key).length ≤ c ∧ RdW w' w'.heap.size A (winsOf M op key) ∧ Below w.heap.size w w' :=
  (windows_any B M op key w h ol.nd (ol.dist op key) (by have := ol.len; omega)).mono fun e w' ⟨v, he, ho, hb⟩ => by
    obtain ⟨A, c, rfl, h1, h2⟩ := own_rdW ho
    exact ⟨A, c, he, h1, h2, hb⟩
theorem winsOf_len (M : Md) (op : Int) (key : ByteArray) : (winsOf M op key).length ≤ M.Lp.length := by
  unfold winsOf
  rw [(sortW_perm _).length_eq]
  exact pickW_len _ _ _
theorem cell_new5 (w : World) (a b c d e : Value) (ty : TypeId) : ∀ j u, [a, b, c, d, e][j]? = some u → (w.alloc (.cells #[a, b, c, d, e] ty)).cell? ((⟨w.heap.size, 0, none⟩ : Addr).add j) = some u := by
  intro j u hu
  rw [Addr.add_lit, World.cell?_alloc_new]
  simpa using hu
theorem chO_len (M : Md) (key : ByteArray) (was t : Int) (h : ∀ i, i < M.j.ops.length → (opW M t i).length ≤ 100) : ∀ n, n ≤ M.j.ops.length → (chO M key t was n).length ≤ 100 * n
  | 0, _ => Nat.le_refl _
  | n + 1, hn => by
    have h1 := chO_len M key was t h n (by omega)
    have h2 : (chWs M key was n (opW M t n)).length ≤ (opW M t n).length := List.length_filterMap_le _ _
    have h3 := h n (by omega)
    rw [chO_succ, List.length_append]
    omega
theorem merge_sl (A : Option Addr) (c : Nat) (l : List (Int × Int)) (x1 x2 : Int) (w : World) (hr : RdW w w.heap.size A l) (hc : l.length ≤ c) (hn : l.length ≤ 1000000)
    (m1 m2 : Int) (G R : List (Int × Int)) (er : Int) (hq : mergeV l (x1, x2) = ((m1, m2), G, R, er)) :
    Calls Tryz.prog 85 #[.slice A l.length c, .agg #[.int .i64 x1, .int .i64 x2]] w fun e w' => ∃ Ag cg vr, e = .returned (.tuple #[.agg #[.int .i64 m1, .int .i64 m2], .slice Ag G.length cg, vr, .int .i64 er]) ∧
      WinsAt w' (.slice Ag G.length cg) G ∧ Below w.heap.size w w' :=
  (merge_any A c l x1 x2 w hr hc hn (m1, m2) G R er hq).mono fun e w' ⟨vg, vr, he, hg, hr, hb⟩ => by
    obtain ⟨Ag, cg, rfl, _⟩ := own_rdW hg
    exact ⟨Ag, cg, vr, he, own_weaken hg (Nat.zero_le _), hb⟩
/-- What stands in a cell. -/
def cv (w : World) (X i : Nat) : Value := (w.cell? ⟨X, i, none⟩).getD .nilFunc
/-- An event in block a, a window in block b, a change in block X. -/
structure Tri (w : World) (a b X : Nat) (ev : Array Value) (f u : Int) (p q : Value) : Prop where
  ev : w.heap[a]? = some (Obj.cells ev 26)
  wn : w.heap[b]? = some (Obj.cells #[.int .i64 f, .int .i64 u] 54)
  ch : ∃ c d e, w.heap[X]? = some (Obj.cells #[p, q, c, d, e] 134)
theorem Tri.below {w w' : World} {a b X : Nat} {ev : Array Value} {f u : Int} {p q : Value} (h : Tri w a b X ev f u p q) (k : Below w.heap.size w w') : Tri w' a b X ev f u p q := by
  obtain ⟨h1, h2, c, d, e, h3⟩ := h
  exact ⟨(k.block _ (Array.getElem?_eq_some_iff.1 h1).1).trans h1, (k.block _ (Array.getElem?_eq_some_iff.1 h2).1).trans h2, c, d, e, (k.block _ (Array.getElem?_eq_some_iff.1 h3).1).trans h3⟩
theorem Tri.set {w : World} {a b X : Nat} {ev : Array Value} {f u : Int} {p q : Value} (h : Tri w a b X ev f u p q) (i : Nat) (hi : 2 ≤ i) (hi2 : i < 5) (v : Value) : Tri (w.setCell ⟨X, i, none⟩ v) a b X ev f u p q := by
  obtain ⟨h1, h2, c, d, e, h3⟩ := h
  have n1 : a ≠ X := fun e => by subst e; rw [h1] at h3; injection h3 with h; injection h with _ h; exact absurd h (by decide)
  have n2 : b ≠ X := fun e => by subst e; rw [h2] at h3; injection h3 with h; injection h with _ h; exact absurd h (by decide)
  have h4 := set_heap (i := i) (v := v) h3
  refine ⟨(Below.heap_setCell w _ v a n1).trans h1, (Below.heap_setCell w _ v b n2).trans h2, ?_⟩
  have hi3 : i = 2 ∨ i = 3 ∨ i = 4 := by omega
  rcases hi3 with rfl | rfl | rfl
  · exact ⟨v, d, e, h4⟩
  · exact ⟨c, v, e, h4⟩
  · exact ⟨c, d, v, h4⟩
theorem Tri.all {w : World} {a b X : Nat} {k src t v : Int} {key : ByteArray} {f u : Int} {p q : Value} (h : Tri w a b X #[.int .i64 k, .int .i64 src, .int .i64 t, .string key, .int .i64 v] f u p q) :
    w.cell? ⟨a, 3, none⟩ = some (.string key) ∧ w.cell? ⟨b, 0, none⟩ = some (.int .i64 f) ∧ w.cell? ⟨b, 1, none⟩ = some (.int .i64 u) ∧ w.cell? ⟨X, 2, none⟩ = some (cv w X 2) ∧ w.cell? ⟨X, 3, none⟩ = some (cv w X 3) ∧ w.cell? ⟨X, 4, none⟩ = some (cv w X 4) ∧
    w.frozen? ⟨X, 2, none⟩ = false ∧ w.frozen? ⟨X, 3, none⟩ = false ∧ w.frozen? ⟨X, 4, none⟩ = false := by
  obtain ⟨h1, h2, c, d, e, h3⟩ := h
  refine ⟨cell_of h1 3, cell_of h2 0, cell_of h2 1, ?_, ?_, ?_, froz_of h3 2, froz_of h3 3, froz_of h3 4⟩ <;> (unfold cv; rw [cell_of h3]; rfl)
theorem Tri.lts {w : World} {a b X : Nat} {ev : Array Value} {f u : Int} {p q : Value} (h : Tri w a b X ev f u p q) : a < w.heap.size ∧ b < w.heap.size ∧ X < w.heap.size := by
  obtain ⟨h1, h2, c, d, e, h3⟩ := h
  exact ⟨(Array.getElem?_eq_some_iff.1 h1).1, (Array.getElem?_eq_some_iff.1 h2).1, (Array.getElem?_eq_some_iff.1 h3).1⟩
/-- A change that is laid in block X. -/
def CAt (wr wc : World) (X : Nat) (c : Chg) : Prop :=
  Below wr.heap.size wr wc ∧ ∃ vf, wc.heap[X]? = some (Obj.cells #[.int .i64 c.p.op, .string c.p.key, .int .i64 c.p.f, .int .i64 c.p.t, vf] 134) ∧ WinsAt wc vf c.ws
theorem sess_end {wr w5 w6 w7 : World} {a b X i : Nat} {ev : Array Value} {f u m1 m2 : Int} {key : ByteArray} {Ag : Option Addr} {cg : Nat} {G : List (Int × Int)} (h5 : Below wr.heap.size wr w5) (h6 : Below w5.drew.heap.size w5.drew w6) (h7 : Below w6.heap.size w6 w7) (hX : wr.heap.size ≤ X)
    (ht : Tri w5 a b X ev f u (.int .i64 i) (.string key)) (hv : WinsAt w7 (.slice Ag G.length cg) G) : CAt wr (((w7.setCell ⟨X, 2, none⟩ (.int .i64 m1)).setCell ⟨X, 3, none⟩ (.int .i64 m2)).setCell ⟨X, 4, none⟩ (.slice Ag G.length cg)) X ⟨⟨i, key, m1, m2⟩, G⟩ := by
  obtain ⟨c, d, e, hx⟩ := (((ht.below (Below.refl _ _).drew).below h6).below h7).ch
  have hb : Below wr.heap.size wr w7 := bl_then (bl_then h5.drew h6) h7
  refine ⟨((hb.setCell (p := ⟨X, 2, none⟩) hX _).setCell (p := ⟨X, 3, none⟩) hX _).setCell (p := ⟨X, 4, none⟩) hX _, .slice Ag G.length cg, ?_, ?_⟩
  · exact set_heap (i := 4) (v := .slice Ag G.length cg) (set_heap (i := 3) (v := .int .i64 m2) (set_heap (i := 2) (v := .int .i64 m1) hx))
  · have hk : Kw (fun q => q = X) w7 (((w7.setCell ⟨X, 2, none⟩ (.int .i64 m1)).setCell ⟨X, 3, none⟩ (.int .i64 m2)).setCell ⟨X, 4, none⟩ (.slice Ag G.length cg)) :=
      (((Kw.refl (fun q => q = X) w7).setCell (p := ⟨X, 2, none⟩) rfl _).setCell (p := ⟨X, 3, none⟩) rfl _).setCell (p := ⟨X, 4, none⟩) rfl _
    refine own_kw hv hk (fun g cur hg e => ?_)
    subst e
    rw [hx] at hg
    injection hg with h
    injection h with _ h
    exact absurd h (by decide)
set_option maxRecDepth 100000 in
set_option maxHeartbeats 8000000 in
theorem changes_any (B : Lo) (M : Md) (e : Ev) (was : Int) (w : World) (h : MdAt w B M) (ok : OkMd M) (ol : OkL M) (ht1 : -1125899906842624 ≤ e.t) (ht2 : e.t ≤ 1125899906842624) (hkz : okN e.key) :
    Calls Tryz.prog 61 #[ptrV B.bm, evV e, .int .i64 was] w fun r w' => ∃ v xs, r = .returned (.tuple #[v, .int .i64 (drO M e.t was M.j.ops.length : Nat)]) ∧ w'.ownsRow w.heap.size 134 5 v (chO M e.key e.t was M.j.ops.length).length xs ∧ ChsAt w' xs (chO M e.key e.t was M.j.ops.length) ∧ Below w.heap.size w w' := by
  have hb := bl_alloc (Below.refl w.heap.size w) (Obj.cells #[.int .i64 e.k, .int .i64 e.src, .int .i64 e.t, .string e.key, .int .i64 e.v] 26)
  have HB := Lib.hid hb
  have HN := Lib.hid (heap_alloc_new w (Obj.cells #[.int .i64 e.k, .int .i64 e.src, .int .i64 e.t, .string e.key, .int .i64 e.v] 26))
  have hm := h.below hb
  have m4 := hm.c 4
  have hl := hm.lt
  simp only [mdcells, List.getElem?_toArray, List.getElem?_cons_zero, List.getElem?_cons_succ] at m4
  have H := Lib.hid h
  have OK := Lib.hid ok
  have OL := Lib.hid ol
  have hol : M.j.ops.length ≤ 8 := ok.job.1.2.2.2.2.2.2.2.2
  obtain ⟨n, hn⟩ : ∃ n, M.j.ops.length = n := ⟨_, rfl⟩
  obtain ⟨k, src, t, key, v⟩ := e
  rw [hn] at m4 hol ⊢
  have HNN := Lib.hid hn
  unfold ptrV evV at *
  dsimp only at *
  clear h hm hb ok ol hn
  go_enter Tryz.func61, Tryz.ntmps61
  go_wp2_with (fail)
  generalize (w.alloc (Obj.cells #[.int .i64 k, .int .i64 src, .int .i64 t, .string key, .int .i64 v] 26)) = W at *
  go_loopw [6, 7, 23] (fun v6 v7 vi wr => ∃ (i : Nat), i ≤ n ∧ vi = .int .i64 i ∧ v7 = .int .i64 (drO M t was i : Nat) ∧ ChSt w wr #[.int .i64 k, .int .i64 src, .int .i64 t, .string key, .int .i64 v] v6 (chO M key t was i)) (fun _ _ i _ => n - (intOf i).toNat)
  case atStart => exact ⟨0, Nat.zero_le _, rfl, rfl, ⟨[], ⟨rfl, .inl ⟨rfl, rfl⟩⟩, trivial⟩, HB.out, HN.out⟩
  case round =>
    obtain ⟨i, hi, rfl, rfl, hst⟩ := hrel
    have HST := Lib.hid hst
    clear hst
    by_cases hin : i < n
    · have hi0 : (0 : Int) ≤ (i : Int) := by omega
      have hi1 : (i : Int) < (n : Int) := by omega
      have hbr := HST.out.2.1
      have hev := HST.out.2.2
      have hmr := H.out.below hbr
      obtain ⟨b, off, hA, hbl, hcs⟩ := hmr.ops.1 (by rw [HNN.out]; omega)
      obtain ⟨c0, c1, c2, c3, c4⟩ := hcs i (by rw [HNN.out]; omega)
      have HOP : Hid (M.j.ops.getD i zeroP ∈ M.j.ops) := Lib.hid (by
        rw [List.getD_eq_getElem?_getD, List.getElem?_eq_getElem (by rw [HNN.out]; exact hin)]
        exact List.getElem_mem _)
      obtain ⟨o, ho⟩ : ∃ o, M.j.ops.getD i zeroP = o := ⟨_, rfl⟩
      rw [ho] at c0 c1 c2 c3 c4 HOP
      have HO := Lib.hid ho
      have x2 := cell_of hev 2
      simp only [List.getElem?_toArray, List.getElem?_cons_zero, List.getElem?_cons_succ] at x2
      have xl := (Array.getElem?_eq_some_iff.1 hev).1
      rw [hA]
      clear hbr hev hmr hcs ho m4 hl
      obtain ⟨nm, ag, kk, ss, ll⟩ := o
      dsimp only at c0 c1 c2 c3 c4
      have HOB : Hid ((wr.alloc (Obj.cells #[.string nm, .int .i64 ag, .int .i64 kk, .int .i64 ss, .int .i64 ll] 48)).heap[wr.heap.size]? = some (Obj.cells #[.string nm, .int .i64 ag, .int .i64 kk, .int .i64 ss, .int .i64 ll] 48)) := Lib.hid (heap_alloc_new wr _)
      have HB1 : Hid (Below wr.heap.size wr (wr.alloc (Obj.cells #[.string nm, .int .i64 ag, .int .i64 kk, .int .i64 ss, .int .i64 ll] 48))) := Lib.hid (bl_alloc (Below.refl _ _) _)
      have HCK : Hid (chkV kk ss ll = 0) := Lib.hid (by
        have h1 := opsP_at OK.out.job.2 i (by rw [HNN.out]; exact hin)
        rw [HO.out] at h1
        exact h1.2.2.2)
      go_wp2_with (fail)
      generalize (wr.alloc (Obj.cells #[.string nm, .int .i64 ag, .int .i64 kk, .int .i64 ss, .int .i64 ll] 48)) = w1 at *
      refine (assign_any kk ss ll t w1 HCK.out (by omega) (by omega)).mono ?_
      rintro r w2 ⟨vw, rfl, hvw, hb2⟩
      have HB2 := Lib.hid (bl_then HB1.out hb2)
      have HO2 := Lib.hid ((hb2.block _ (Array.getElem?_eq_some_iff.1 HOB.out).1).trans HOB.out)
      have HVW := Lib.hid hvw
      obtain ⟨AW, cw, rfl, hwat⟩ := WinsAt.at_ hvw
      have HWAT := Lib.hid hwat
      obtain ⟨WS, hWS⟩ : ∃ WS, winsL kk ss ll t = WS := ⟨_, rfl⟩
      rw [hWS] at HVW HWAT ⊢
      have HWS := Lib.hid hWS
      clear hvw hb2 hwat hWS HB1 HOB c0 c1 c2 c3 c4 x2 xl
      go_wp2_with (fail)
      go_loopw [6, 7, 38] (fun v6 v7 vj wx => ∃ (j : Nat), j ≤ WS.length ∧ vj = .int .i64 j ∧ v7 = .int .i64 (drO M t was i + drW M was (WS.take j) : Nat) ∧ ChSt w wx #[.int .i64 k, .int .i64 src, .int .i64 t, .string key, .int .i64 v] v6 (chO M key t was i ++ chWs M key was i (WS.take j)) ∧ Ke w2 wx) (fun _ _ j _ => WS.length - (intOf j).toNat)
      case atStart =>
        refine ⟨0, Nat.zero_le _, rfl, ?_, ?_, Ke.refl _⟩
        · rfl
        · rw [show chWs M key was i (WS.take 0) = [] from rfl, List.append_nil]
          exact HST.out.below HB2.out
      case round =>
        obtain ⟨j, hj, rfl, rfl, hst, hke⟩ := hrel
        have HST2 := Lib.hid hst
        have HKE := Lib.hid hke
        clear hst hke
        by_cases hjn : j < WS.length
        · have hj0 : (0 : Int) ≤ (j : Int) := by omega
          have hj1 : (j : Int) < (WS.length : Int) := by omega
          obtain ⟨g, hg, hgB, hgl, ⟨cur, hcur⟩, hw⟩ := HWAT.out (by omega)
          obtain ⟨q0, q1⟩ := hw j hjn
          obtain ⟨⟨f, u⟩, hfu⟩ : ∃ p, WS[j] = p := ⟨_, rfl⟩
          rw [hfu] at q0 q1
          have HFU := Lib.hid hfu
          have hk := HKE.out.keep hcur (by decide)
          have z0 : wr.cell? ⟨g, j * 2, none⟩ = some (.int .i64 f) := (World.cell?_of_block (hk.trans hcur.symm)).trans q0
          have z1 : wr.cell? ⟨g, j * 2 + 1, none⟩ = some (.int .i64 u) := (World.cell?_of_block (hk.trans hcur.symm)).trans q1
          have gl := (Array.getElem?_eq_some_iff.1 hk).1
          have HOX := Lib.hid (HKE.out.keep HO2.out (by decide))
          have HM3 := Lib.hid ((H.out.below HST2.out.2.1).below (bl_alloc (Below.refl wr.heap.size wr) (Obj.cells #[.int .i64 f, .int .i64 u] 54)))
          have HWB := Lib.hid (winsL_bd HCK.out ht1 ht2)
          rw [HWS.out] at HWB
          have HBD : Hid ((-9223372036854775808 ≤ f ∧ f < 9223372036854775808) ∧ -1000000000000000000 ≤ u ∧ u ≤ 1000000000000000000) := Lib.hid (by
            have h := HWB.out.2 WS[j] (List.getElem_mem hjn)
            rw [HFU.out] at h
            exact h)
          have hjb : (j : Int) + 1 ≤ 100 := by have := HWB.out.1; omega
          have hdb : (drO M t was i : Int) + (drW M was (WS.take j) : Int) + 1 ≤ 10000 := by
            have h1 := drO_le M was t (fun i hi => (winsL_bd (opsP_at OK.out.job.2 i hi).2.2.2 ht1 ht2).1) i (by rw [HNN.out]; omega)
            have h2 := drW_le M was (WS.take j)
            have h3 := HWB.out.1
            have h4 : (WS.take j).length ≤ WS.length := List.length_take_le' _ _
            omega
          have hdp : (0 : Int) ≤ (drO M t was i : Int) + (drW M was (WS.take j) : Int) := by omega
          have HG := Lib.hid (gone_any B M f u was _ HM3.out OK.out.late HBD.out.2)
          unfold ptrV at HG
          rw [hg]
          clear hw q0 q1 hfu hk hcur hg
          go_wp2_with (fail)
          refine HG.out.mono ?_
          rintro r w4 ⟨rfl, hb4⟩
          have HB4 := Lib.hid (bl_then (bl_alloc (Below.refl wr.heap.size wr) (Obj.cells #[.int .i64 f, .int .i64 u] 54)) hb4)
          have HW4 := Lib.hid ((hb4.block _ (by simp)).trans (heap_alloc_new wr (Obj.cells #[.int .i64 f, .int .i64 u] 54)))
          clear hb4 HG
          by_cases hgn : u - 1 + M.j.late ≤ was
          · have HT : Hid (drW M was (WS.take (j + 1)) = drW M was (WS.take j) + 1) := Lib.hid (by rw [drW_snoc M was WS j hjn, HFU.out, if_pos hgn])
            have HC2 : Hid (chWs M key was i (WS.take (j + 1)) = chWs M key was i (WS.take j)) := Lib.hid (by
              rw [chWs_snoc M key was i WS j hjn, HFU.out]
              unfold chW
              rw [if_pos hgn, List.append_nil])
            rw [decide_eq_true hgn]
            go_wp2_with (fail)
            exact ⟨⟨j + 1, by omega, by push_cast; rfl, by rw [HT.out]; push_cast; rw [Int.add_assoc], by rw [HC2.out]; exact HST2.out.below HB4.out, HKE.out.below HB4.out⟩, by simp [intOf]; omega⟩
          · rw [decide_eq_false hgn]
            have HT : Hid (drW M was (WS.take (j + 1)) = drW M was (WS.take j)) := Lib.hid (by rw [drW_snoc M was WS j hjn, HFU.out, if_neg hgn, Nat.add_zero])
            have HC2 : Hid (chWs M key was i (WS.take (j + 1)) = chWs M key was i (WS.take j) ++ [chG M key i (f, u)]) := Lib.hid (by
              rw [chWs_snoc M key was i WS j hjn, HFU.out]
              unfold chW
              rw [if_neg hgn])
            have hev4 := (HST2.out.below HB4.out).2.2
            have HEV4 := Lib.hid hev4
            have x3 := cell_of hev4 3
            have xl := (Array.getElem?_eq_some_iff.1 hev4).1
            have y0 := cell_of HW4.out 0
            have y1 := cell_of HW4.out 1
            have yl := (Array.getElem?_eq_some_iff.1 HW4.out).1
            have hop4 := (HB4.out.block _ (Array.getElem?_eq_some_iff.1 HOX.out).1).trans HOX.out
            have o2 := cell_of hop4 2
            have ol := (Array.getElem?_eq_some_iff.1 hop4).1
            simp only [List.getElem?_toArray, List.getElem?_cons_zero, List.getElem?_cons_succ] at x3 y0 y1 o2
            have HB5 := Lib.hid (bl_then HB4.out (bl_alloc (Below.refl w4.heap.size w4) (Obj.cells #[.int .i64 i, .string key, .int .i64 f, .int .i64 u, .slice none 0 0] 134)))
            have HX5 := Lib.hid (heap_alloc_new w4 (Obj.cells #[.int .i64 i, .string key, .int .i64 f, .int .i64 u, .slice none 0 0] 134))
            have HW5 := Lib.hid (((bl_alloc (Below.refl w4.heap.size w4) (Obj.cells #[.int .i64 i, .string key, .int .i64 f, .int .i64 u, .slice none 0 0] 134)).block _ yl).trans HW4.out)
            have HE5 := Lib.hid (((bl_alloc (Below.refl w4.heap.size w4) (Obj.cells #[.int .i64 i, .string key, .int .i64 f, .int .i64 u, .slice none 0 0] 134)).block _ xl).trans HEV4.out)
            clear hev4 hop4
            go_upto_if 57 with fail
            have hszX : wr.heap.size ≤ w4.heap.size := HB4.out.size
            clear x3 xl y0 y1 yl o2 ol HEV4
            go_cut [] from 39 to 91 (fun wc => CAt wr wc w4.heap.size (chG M key i (f, u)))
            case first =>
              generalize (w4.alloc (Obj.cells #[.int .i64 i, .string key, .int .i64 f, .int .i64 u, .slice none 0 0] 134)) = w5 at *
              have hm5 := H.out.below (bl_then HST2.out.2.1 HB5.out)
              have HM5 := Lib.hid hm5
              have HPL : Hid (okPl ⟨i, key, f, u⟩) := Lib.hid (by
                have h1 := HBD.out
                have h2 : key.size ≤ 9223372036854775807 := hkz
                refine ⟨by dsimp only; omega, by unfold maxLen; dsimp only; omega, by dsimp only; omega, by dsimp only; omega⟩)
              have g4 := (Array.getElem?_eq_some_iff.1 HX5.out).1
              have HKX : Hid ((M.j.ops.getD i zeroP).k = kk) := Lib.hid (by rw [HO.out])
              by_cases hk3 : kk = 3
              · have hk3b : (kk == 3) = true := by simpa using hk3
                have hln : (winsOf M i key).length ≤ 1000000 := by
                  have h1 := winsOf_len M i key
                  have h2 := OL.out.len
                  omega
                have HWD := Lib.hid (fun W (hM : MdAt W B M) => windows_rd B M i key W hM OL.out)
                obtain ⟨⟨⟨m1, m2⟩, G, R, er⟩, hq⟩ : ∃ q, mergeV (winsOf M i key) (f, u) = q := ⟨_, rfl⟩
                have HMG := Lib.hid (fun A c W (hr : RdW W W.heap.size A (winsOf M i key)) (hc : (winsOf M i key).length ≤ c) => merge_sl A c (winsOf M i key) f u W hr hc hln m1 m2 G R er hq)
                have HCG : Hid (chG M key i (f, u) = ⟨⟨i, key, m1, m2⟩, G⟩) := Lib.hid (by
                  unfold chG
                  rw [HKX.out, if_pos hk3, hq])
                have HT5 : Hid (Tri w5 w.heap.size wr.heap.size w4.heap.size #[.int .i64 k, .int .i64 src, .int .i64 t, .string key, .int .i64 v] f u (.int .i64 i) (.string key)) := Lib.hid ⟨HE5.out, HW5.out, _, _, _, HX5.out⟩
                obtain ⟨a3, a0, a1, a2, a4, a5, a6, a7, a8⟩ := HT5.out.all
                have l3 := (Array.getElem?_eq_some_iff.1 HE5.out).1
                have l0 := (Array.getElem?_eq_some_iff.1 HW5.out).1
                unfold ptrV at HWD
                obtain ⟨nW, hnW⟩ : ∃ nW, (winsOf M i key).length = nW := ⟨_, rfl⟩
                rw [hnW] at HWD HMG
                clear hm5 hk3 hq hnW hln
                go_wp2_with (fail)
                go_region_with (first | (go_at_call 85; refine (HMG.out A6 c6 _ hr6 hc6).mono ?_; rintro e w7 ⟨Ag, cg, vr, rfl, hvg, hb7⟩; obtain ⟨d3, d0, d1, d2, d4, d5, d6, d7, d8⟩ := (((HT5.out.below (Below.refl _ _).drew).below hb6).below hb7).all; obtain ⟨e0, e1, e2⟩ := (((HT5.out.below (Below.refl _ _).drew).below hb6).below hb7).lts) | (go_at_call 44; refine (HWD.out _ (HM5.out.below (Below.refl _ _).drew)).mono ?_; rintro e w6 ⟨A6, c6, rfl, hc6, hr6, hb6⟩; obtain ⟨b3, b0, b1, b2, b4, b5, b6, b7, b8⟩ := ((HT5.out.below (Below.refl _ _).drew).below hb6).all; obtain ⟨e3, e4, e5⟩ := ((HT5.out.below (Below.refl _ _).drew).below hb6).lts))
                all_goals
                  have HF := Lib.hid (sess_end (m1 := m1) (m2 := m2) HB5.out hb6 hb7 hszX HT5.out hvg)
                  clear hvg hb7 hb6 hr6 b0 b1 b2 b3 b4 b5 b6 b7 b8 d0 d1 d2 d3 d4 d5 d6 d7 d8 a0 a1 a2 a3 a4 a5 a6 a7 a8 HWD HMG
                  go_wp2_with (fail)
                  go_meet
                  case rel =>
                    rw [HCG.out]
                    exact HF.out
              · have hk3b : (kk == 3) = false := by simpa using hk3
                have m6 := ext_cell (hm5.c 6)
                have ml := hm5.lt
                have g0 := ext_cell (cell_of HX5.out 0)
                have g1 := ext_cell (cell_of HX5.out 1)
                have g2 := ext_cell (cell_of HX5.out 2)
                have g3 := ext_cell (cell_of HX5.out 3)
                simp only [mdcells, List.getElem?_toArray, List.getElem?_cons_zero, List.getElem?_cons_succ] at m6 g0 g1 g2 g3
                have HCG : Hid (chG M key i (f, u) = ⟨⟨i, key, f, u⟩, if M.has ⟨i, key, f, u⟩ then [(f, u)] else []⟩) := Lib.hid (by
                  unfold chG
                  rw [HKX.out, if_neg hk3])
                clear hk3
                by_cases hh : M.has ⟨i, key, f, u⟩
                · obtain ⟨y, hy, hyp⟩ := hh
                  have hlk : ∀ X : Ext w5, (Instr.lookup 85 (.map (some B.bo)) (.agg #[.int .i64 i, .string key, .int .i64 f, .int .i64 u]) true).run Tryz.prog X.val = .ok (.tuple #[.slice (some ⟨y.r.b, 0, none⟩) y.r.n y.r.c, .bool true]) X.val :=
                    fun X => ((hm5.below X.bl).map.look2 HPL.out).1 (y.p, y.r) (List.mem_map.2 ⟨y, hy, rfl⟩) hyp
                  have HH : Hid (M.has ⟨i, key, f, u⟩) := Lib.hid ⟨y, hy, hyp⟩
                  clear hm5 hy hyp
                  go_wp2_with (fail)
                  refine wp_region_ext (by kernel_rfl) (by kernel_rfl) ?_
                  repeat (go_big_quiet_step (fail))
                  refine wpQuiet_nil ?_
                  rintro w6 ⟨⟨_, hb6⟩, rfl⟩
                  have HB6 := Lib.hid (bl_then HB5.out hb6)
                  have HX6 := Lib.hid ((hb6.block _ g4).trans HX5.out)
                  have HW6 := Lib.hid ((hb6.block _ (Array.getElem?_eq_some_iff.1 HW5.out).1).trans HW5.out)
                  clear hlk m6 g0 g1 g2 g3 hb6 HM3 HX5 HW5 HOX HBD HPL
                  have y0 := cell_of HW6.out 0
                  have y1 := cell_of HW6.out 1
                  have yl := (Array.getElem?_eq_some_iff.1 HW6.out).1
                  have f4 := froz_of HX6.out 4
                  have z4 := cell_of HX6.out 4
                  have zl := (Array.getElem?_eq_some_iff.1 HX6.out).1
                  simp only [List.getElem?_toArray, List.getElem?_cons_zero, List.getElem?_cons_succ] at y0 y1 z4
                  have hz7 : (w6.setCell ⟨w4.heap.size, 4, none⟩ (.slice (some ⟨w6.heap.size, 0, none⟩) 1 1)).heap.size = w6.heap.size := by simp [World.setCell]
                  have hx7 := set_heap (i := 4) (v := .slice (some ⟨w6.heap.size, 0, none⟩) 1 1) HX6.out
                  have hb7 : Below wr.heap.size wr (w6.setCell ⟨w4.heap.size, 4, none⟩ (.slice (some ⟨w6.heap.size, 0, none⟩) 1 1)) := HB6.out.setCell hszX _
                  have hn7 := heap_alloc_new (w6.setCell ⟨w4.heap.size, 4, none⟩ (.slice (some ⟨w6.heap.size, 0, none⟩) 1 1)) (Obj.cells #[.int .i64 f, .int .i64 u] 54)
                  rw [hz7] at hn7
                  have HX7 := Lib.hid (((bl_alloc (Below.refl _ _) (Obj.cells #[.int .i64 f, .int .i64 u] 54)).block _ (Array.getElem?_eq_some_iff.1 hx7).1).trans hx7)
                  have HB7 := Lib.hid (bl_alloc hb7 (Obj.cells #[.int .i64 f, .int .i64 u] 54))
                  have HN7 := Lib.hid hn7
                  clear hz7 hx7 hb7 hn7
                  go_wp2_with (fail)
                  go_meet
                  case rel =>
                    rw [HCG.out, if_pos HH.out]
                    exact ⟨HB7.out, _, HX7.out, rfl, .inr ⟨w6.heap.size, 1, _, rfl, Nat.zero_le _, HN7.out, Nat.le_refl _, by decide, rfl, rfl⟩⟩
                · have hlk : ∀ X : Ext w5, (Instr.lookup 85 (.map (some B.bo)) (.agg #[.int .i64 i, .string key, .int .i64 f, .int .i64 u]) true).run Tryz.prog X.val = .ok (.tuple #[.slice none 0 0, .bool false]) X.val :=
                    fun X => ((hm5.below X.bl).map.look2 HPL.out).2 (fun b hb e => by
                      obtain ⟨y, hy, rfl⟩ := List.mem_map.1 hb
                      exact hh ⟨y, hy, e⟩)
                  have HH : Hid (¬ M.has ⟨i, key, f, u⟩) := Lib.hid hh
                  clear hm5 hh
                  go_wp2_with (fail)
                  refine wp_region_ext (by kernel_rfl) (by kernel_rfl) ?_
                  repeat (go_big_quiet_step (fail))
                  refine wpQuiet_nil ?_
                  rintro w6 ⟨⟨_, hb6⟩, rfl⟩
                  have HB6 := Lib.hid (bl_then HB5.out hb6)
                  have HX6 := Lib.hid ((hb6.block _ g4).trans HX5.out)
                  clear hlk m6 g0 g1 g2 g3 hb6 HM3 HX5 HW5 HOX HBD HPL
                  go_wp2_with (fail)
                  go_meet
                  case rel =>
                    rw [HCG.out, if_neg HH.out]
                    exact ⟨HB6.out, _, HX6.out, rfl, .inl ⟨rfl, rfl⟩⟩
            case rest =>
              obtain ⟨⟨⟨po, pk, pf, pt⟩, cws⟩, hc⟩ : ∃ c, chG M key i (f, u) = c := ⟨_, rfl⟩
              rw [hc] at hcut HC2
              clear HX5 HW5 HE5 HB5 HM3 HOX HBD HWB HW4 hc hgn
              obtain ⟨hbw, vf, hx, hwn⟩ := hcut
              dsimp only at hx hwn
              have z0 := cell_of hx 0
              have z1 := cell_of hx 1
              have z2 := cell_of hx 2
              have z3 := cell_of hx 3
              have z4 := cell_of hx 4
              have zl := (Array.getElem?_eq_some_iff.1 hx).1
              simp only [List.getElem?_toArray, List.getElem?_cons_zero, List.getElem?_cons_succ] at z0 z1 z2 z3 z4
              obtain ⟨⟨xs, hrow, hch⟩, hbr, hevr⟩ := HST2.out.below hbw
              have hb9 := bl_alloc (Below.refl wc.heap.size wc) (Obj.cells #[.int .i64 po, .string pk, .int .i64 pf, .int .i64 pt, vf] 134)
              have HCH : Hid (ChsAt (wc.alloc (Obj.cells #[.int .i64 po, .string pk, .int .i64 pf, .int .i64 pt, vf] 134)) (xs ++ [.int .i64 po, .string pk, .int .i64 pf, .int .i64 pt, vf]) (chO M key t was i ++ chWs M key was i (WS.take j) ++ [⟨⟨po, pk, pf, pt⟩, cws⟩])) := Lib.hid (ChsAt.kw (S := fun _ => False) (Kw.ofBelow hb9) (fun _ _ _ h => h) _ _ (ChsAt.snoc (g := ⟨⟨po, pk, pf, pt⟩, cws⟩) hwn _ _ hch))
              have HB9 := Lib.hid (bl_then hbr hb9)
              have HEV9 := Lib.hid ((hb9.block _ (Array.getElem?_eq_some_iff.1 hevr).1).trans hevr)
              have HOWN := Lib.hid (own_below hrow hb9)
              have HKE9 := Lib.hid ((HKE.out.below hbw).below hb9)
              have HNW := Lib.hid (cell_new5 wc (.int .i64 po) (.string pk) (.int .i64 pf) (.int .i64 pt) vf 134)
              obtain ⟨i0, hi9, hz0, hz1, hz2⟩ := info_parts i134
              have HII := Lib.hid hi9
              have hlen : (chO M key t was i ++ chWs M key was i (WS.take j)).length ≤ 100000 := by
                rw [List.length_append]
                have h1 := chO_len M key was t (fun i hi => (winsL_bd (opsP_at OK.out.job.2 i hi).2.2.2 ht1 ht2).1) i (by rw [HNN.out]; omega)
                have h2 : (chWs M key was i (WS.take j)).length ≤ (WS.take j).length := List.length_filterMap_le _ _
                have h4 : (WS.take j).length ≤ j := List.length_take_le _ _
                omega
              have hone : ∀ u ∈ [Value.int .i64 po, .string pk, .int .i64 pf, .int .i64 pt, vf], u.oneCell' = true := by
                obtain ⟨A, cc, hv, _⟩ := WinsAt.at_ hwn
                intro u hu
                simp only [List.mem_cons, List.not_mem_nil, or_false] at hu
                rcases hu with rfl | rfl | rfl | rfl | rfl
                · rfl
                · rfl
                · rfl
                · rfl
                · rw [hv]; rfl
              have HON := Lib.hid hone
              have hszb : w.heap.size ≤ (wc.alloc (Obj.cells #[.int .i64 po, .string pk, .int .i64 pf, .int .i64 pt, vf] 134)).heap.size := HB9.out.size
              obtain ⟨L0, hL0⟩ : ∃ L0, (chO M key t was i ++ chWs M key was i (WS.take j)).length = L0 := ⟨_, rfl⟩
              rw [hL0] at hlen HOWN
              have HL0 := Lib.hid hL0
              clear hb9 hrow hch hbr hevr hi9 hbw hx hwn hone hL0
              go_wp2_with (at_builtin; refine wpList_append_own _ rfl _ _ 130 rfl w.heap.size 134 i0 (.agg #[.int .i64 0, .string ⟨#[]⟩, .int .i64 0, .int .i64 0, .slice none 0 0]) 5 64 und130 HII.out hz0 hz1 hz2 rfl (by decide) _ _ xs rfl HOWN.out ⟨wc.heap.size, 0, none⟩ 1 1 [.int .i64 po, .string pk, .int .i64 pf, .int .i64 pt, vf] rfl rfl HNW.out HON.out ?_ ?_ hszb ?_)
              · unfold maxLen; omega
              · omega
              intro v' w7 hown' hgrow _
              have hrow : ∀ k, u6.ownBlock = some k → ∃ cur, (wc.alloc (Obj.cells #[.int .i64 po, .string pk, .int .i64 pf, .int .i64 pt, vf] 134)).heap[k]? = some (Obj.cells cur 134) := fun k hk => by
                rcases HOWN.out.2 with ⟨e0, _⟩ | ⟨g, cc, cur, e0, _, hg, _⟩
                · rw [e0] at hk; cases hk
                · rw [e0] at hk; injection hk with hk; subst hk; exact ⟨cur, hg⟩
              have hke7 := HKE9.out.grown hgrow hrow
              have hkw7 : Kw (fun b => u6.ownBlock = some b) (wc.alloc (Obj.cells #[.int .i64 po, .string pk, .int .i64 pf, .int .i64 pt, vf] 134)) w7 := (Kw.refl _ _).grown hgrow (fun k hk => hk)
              have hch7 := ChsAt.kw hkw7 (fun g cur hg hs => by
                obtain ⟨cur2, h2⟩ := hrow g hs
                rw [h2] at hg
                injection hg with hg
                injection hg with _ h3
                exact absurd h3 (by decide)) _ _ HCH.out
              have hev7 := (hkw7.block _ (Array.getElem?_eq_some_iff.1 HEV9.out).1 (fun hs => by
                obtain ⟨cur2, h2⟩ := hrow _ hs
                rw [HEV9.out] at h2
                injection h2 with hg
                injection hg with _ h3
                exact absurd h3 (by decide))).trans HEV9.out
              have hb7 : Below w.heap.size w w7 := HB9.out.grown hgrow HB9.out.size (fun g hg => (HOWN.out.lt g hg).1)
              have HST7 : Hid (ChSt w w7 #[.int .i64 k, .int .i64 src, .int .i64 t, .string key, .int .i64 v] v' (chO M key t was i ++ (chWs M key was i (WS.take j) ++ [⟨⟨po, pk, pf, pt⟩, cws⟩]))) := Lib.hid (by
                rw [← List.append_assoc]
                refine ⟨⟨_, ?_, hch7⟩, hb7, hev7⟩
                rw [List.length_append, HL0.out]
                exact hown')
              have HKE7 := Lib.hid hke7
              clear hown' hgrow hrow hke7 hkw7 hch7 hev7 hb7 HOWN HCH HB9 HEV9 HKE9 HNW HON HII
              go_wp2_with (fail)
              go_roundw
              case rel =>
                exact ⟨j + 1, by omega, by push_cast; rfl, by rw [HT.out]; push_cast; rfl, by rw [HC2.out]; exact HST7.out, HKE7.out⟩
              case measure => simp [intOf]; omega
        · have hj1 : ¬ (j : Int) < (WS.length : Int) := by omega
          have hje : j = WS.length := by omega
          subst hje
          have HEC : Hid (chO M key t was (i + 1) = chO M key t was i ++ chWs M key was i (WS.take WS.length)) := Lib.hid (by
            rw [chO_succ, List.take_length]
            unfold opW
            rw [HO.out, HWS.out])
          have HED : Hid (drO M t was (i + 1) = drO M t was i + drW M was (WS.take WS.length)) := Lib.hid (by
            rw [List.take_length]
            show drO M t was i + drW M was (opW M t i) = _
            unfold opW
            rw [HO.out, HWS.out])
          go_wp2_with (fail)
          exact ⟨⟨i + 1, by omega, by push_cast; rfl, by rw [HED.out], by rw [HEC.out]; exact HST2.out⟩, by simp [intOf]; omega⟩
    · have hi1 : ¬ (i : Int) < (n : Int) := by omega
      have hie : i = n := by omega
      subst hie
      go_wp2_with (fail)
      go_ret2
      obtain ⟨⟨xs, h1, h2⟩, h3, h4⟩ := HST.out
      exact ⟨_, rfl, xs, h1, h2, h3⟩
end Go.Proofs.YtfojblbnhapedaaGreatDoor
