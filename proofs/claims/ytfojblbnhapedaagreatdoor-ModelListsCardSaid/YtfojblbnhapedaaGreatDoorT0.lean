/- Ranging over the model's map: the places that are still to come. Conditions: as each theorem states them. -/
import Derived.Test.YtfojblbnhapedaaGreatDoorS3
import Derived.Maps.RangeWalk
namespace Go.Proofs.YtfojblbnhapedaaGreatDoor
open Go.RowKit Go.Maps Go.WideElems
set_option linter.unusedVariables false
set_option linter.unusedSimpArgs false
set_option maxRecDepth 100000

theorem i64_wf {x : Int} (h : (Lit.int .i64 x).wf = true) : -9223372036854775808 ≤ x ∧ x < 9223372036854775808 := by
  have h1 : IntKind.min .i64 = -9223372036854775808 := by decide
  have h2 : IntKind.max .i64 = 9223372036854775807 := by decide
  have h : (decide (IntKind.min .i64 ≤ x) && decide (x ≤ IntKind.max .i64)) = true := h
  rw [h1, h2, Bool.and_eq_true, decide_eq_true_eq, decide_eq_true_eq] at h
  omega
theorem kl_int_inv {N : Nat} {v : Value} {l : List Lit} (h : Program.keyLits Tryz.prog (N + 1) 2 [v] = some l) : ∃ x, v = .int .i64 x ∧ (Lit.int .i64 x).wf = true := by
  unfold Program.keyLits at h
  rw [Tryz.underlying2] at h
  cases v <;> simp at h
  exact ⟨_, by rw [h.1.1], h.1.2⟩
theorem kl_int3_inv {N : Nat} {v : Value} {l : List Lit} (h : Program.keyLits Tryz.prog (N + 1) 3 [v] = some l) : ∃ x, v = .int .i64 x ∧ (Lit.int .i64 x).wf = true := by
  unfold Program.keyLits at h
  rw [Tryz.underlying3] at h
  cases v <;> simp at h
  exact ⟨_, by rw [h.1.1], h.1.2⟩
theorem kl_str_inv {N : Nat} {v : Value} {l : List Lit} (h : Program.keyLits Tryz.prog (N + 1) 9 [v] = some l) : ∃ x, v = .string x ∧ x.size ≤ maxLen := by
  unfold Program.keyLits at h
  rw [Tryz.underlying9] at h
  cases v <;> simp at h
  exact ⟨_, rfl, h.1⟩
theorem kl_win_inv {N : Nat} {a b : Value} {l : List Lit} (h : Program.keyLits Tryz.prog (N + 1 + 1) 54 [a, b] = some l) : ∃ x y, a = .int .i64 x ∧ b = .int .i64 y ∧ (Lit.int .i64 x).wf = true ∧ (Lit.int .i64 y).wf = true := by
  unfold Program.keyLits at h
  simp [Tryz.underlying54, c54, c2] at h
  cases h1 : Program.keyLits Tryz.prog (N + 1) 2 [a] with
  | none => rw [h1] at h; cases h
  | some l1 =>
  cases h2 : Program.keyLits Tryz.prog (N + 1) 2 [b] with
  | none => rw [h1, h2] at h; cases h
  | some l2 =>
  obtain ⟨x, rfl, hx⟩ := kl_int_inv h1
  obtain ⟨y, rfl, hy⟩ := kl_int_inv h2
  exact ⟨x, y, rfl, rfl, hx, hy⟩
theorem kl_place_inv {N : Nat} {a b c d : Value} {l : List Lit} (h : Program.keyLits Tryz.prog (N + 1 + 1 + 1) 105 [a, b, c, d] = some l) : ∃ x, okPl x ∧ Value.agg #[a, b, c, d] = plV x := by
  unfold Program.keyLits at h
  simp [Tryz.underlying105, c105, c3, c9, c54] at h
  cases h1 : Program.keyLits Tryz.prog (N + 2) 3 [a] with
  | none => rw [h1] at h; cases h
  | some l1 =>
  cases h2 : Program.keyLits Tryz.prog (N + 2) 9 [b] with
  | none => rw [h1, h2] at h; cases h
  | some l2 =>
  cases h3 : Program.keyLits Tryz.prog (N + 2) 54 [c, d] with
  | none => rw [h1, h2, h3] at h; cases h
  | some l3 =>
  obtain ⟨x, rfl, hx⟩ := kl_int3_inv h1
  obtain ⟨k, rfl, hk⟩ := kl_str_inv h2
  obtain ⟨f, t, rfl, rfl, hf, ht⟩ := kl_win_inv h3
  exact ⟨⟨x, k, f, t⟩, ⟨i64_wf hx, hk, i64_wf hf, i64_wf ht⟩, rfl⟩
theorem key_inv {v : Value} {kl : Lit} (h : keyOf Tryz.prog 105 v = some kl) : ∃ x, okPl x ∧ v = plV x := by
  unfold keyOf at h
  simp only [Tryz.underlying105] at h
  split at h
  · rename_i hc
    rw [Bool.and_eq_true] at hc
    have hf := hc.2
    obtain ⟨N, hN⟩ : ∃ N, Tryz.prog.types.size + 1 = N + 1 + 1 + 1 := ⟨Tryz.prog.types.size - 2, by have : 1 < Tryz.prog.types.size := of_decide_eq_true (by kernel_rfl); omega⟩
    rw [hN] at h
    cases v <;> simp [Value.formed, Tryz.underlying105, c105] at hf
    rename_i cs
    obtain ⟨l⟩ := cs
    rcases l with _ | ⟨a, _ | ⟨b, _ | ⟨c, _ | ⟨d, _ | ⟨e, l⟩⟩⟩⟩⟩ <;> simp at hf
    obtain ⟨ls, hls, _⟩ := Option.map_eq_some_iff.1 h
    exact kl_place_inv hls
  · cases h
/-- The map of L is ranged over by the iterator in block r: the places of todo are still to come. -/
def MapRg (w : World) (m r : Nat) (L todo : List (Pl × Rw)) (cnt : Nat) : Prop :=
  (∀ b ∈ L, okPl b.1) ∧ (∀ b ∈ todo, b ∈ L) ∧ (L.map (·.1)).Nodup ∧ (todo.map (·.1)).Nodup ∧ ∃ (D : DataW Unit) (left : Lit → Bool) (n : Nat), w.ranges Tryz.prog 105 RQ m r n D left cnt ∧ size D = L.length ∧ (∀ b ∈ L, has D (klP b.1) = true ∧ D.atKey (klP b.1) .nil = rwD b.2) ∧
    (∀ x, okPl x → (∀ b ∈ L, b.1 ≠ x) → has D (klP x) = false) ∧ ∀ kl, left kl = true ↔ ∃ b ∈ todo, klP b.1 = kl
theorem MapRg.map {w : World} {m r cnt : Nat} {L todo : List (Pl × Rw)} (h : MapRg w m r L todo cnt) : MapAt w m L := by
  obtain ⟨h0, _, _, _, D, left, n, hr, hs, h1, h2, _⟩ := h
  exact ⟨h0, D, hs ▸ own_tight hr.owns, hs, h1, h2⟩
theorem MapRg.left_eq {w : World} {m r cnt : Nat} {L todo : List (Pl × Rw)} (h : MapRg w m r L todo cnt) : w.rangeLeft m r = cnt := by
  obtain ⟨_, _, _, _, D, left, n, hr, _⟩ := h
  exact hr.left_eq
theorem MapRg.lt {w : World} {m r cnt : Nat} {L todo : List (Pl × Rw)} (h : MapRg w m r L todo cnt) : r < w.heap.size := by
  obtain ⟨_, _, _, _, D, left, n, hr, _⟩ := h
  exact hr.lt
theorem MapRg.ne {w : World} {m r cnt : Nat} {L todo : List (Pl × Rw)} (h : MapRg w m r L todo cnt) : r ≠ m := by
  obtain ⟨_, _, _, _, D, left, n, hr, _⟩ := h
  exact hr.ne
theorem MapRg.iter {w : World} {m r cnt : Nat} {L todo : List (Pl × Rw)} (h : MapRg w m r L todo cnt) : ∃ a b c d, w.heap[r]? = some (.mapIter a b c d) := by
  obtain ⟨_, _, _, _, D, left, n, hr, _⟩ := h
  obtain ⟨es, clock, since, seen, c0, _, _, _, _, hr, _⟩ := hr
  exact ⟨_, _, _, _, hr⟩
theorem MapRg.kw {w w' : World} {S : Nat → Prop} {m r cnt : Nat} {L todo : List (Pl × Rw)} (h : MapRg w m r L todo cnt) (k : Kw S w w') (hm : ¬ S m) (hr : ¬ S r) : MapRg w' m r L todo cnt := by
  obtain ⟨h0, h1, h2, h3, D, left, n, hrg, hs⟩ := h
  have e1 := hrg.owns.lt
  have e2 := hrg.lt
  obtain ⟨es, clock, since, seen, c0, hb, F, hs', hD, hr', rest⟩ := hrg
  exact ⟨h0, h1, h2, h3, D, left, n, ⟨es, clock, since, seen, c0, (k.block m e1 hm).trans hb, F, hs', hD, (k.block r e2 hr).trans hr', rest⟩, hs⟩
theorem MapRg.below {w w' : World} {m r cnt : Nat} {L todo : List (Pl × Rw)} (h : MapRg w m r L todo cnt) (k : Below w.heap.size w w') : MapRg w' m r L todo cnt :=
  h.kw (S := fun _ => False) (Kw.ofBelow k) (fun h => h) (fun h => h)
/-- Every key of the map is a place of the list. -/
theorem MapAt.keys {w : World} {m : Nat} {L : List (Pl × Rw)} {n : Nat} {D : DataW Unit} (ho : w.ownsMap Tryz.prog 105 RQ m n D) (h3 : ∀ x, okPl x → (∀ b ∈ L, b.1 ≠ x) → has D (klP x) = false) {kl : Lit} (h : has D kl = true) : ∃ b ∈ L, klP b.1 = kl := by
  obtain ⟨es, clock, hb, F, hs, rfl⟩ := ho
  obtain ⟨p, hp, hpk⟩ := List.any_eq_true.1 h
  obtain ⟨x, hx, rfl⟩ := List.mem_map.1 (mem_sorted.1 hp)
  obtain ⟨y, hy⟩ := F.reads x hx
  have e1 := rd_key hy
  rw [rg_of hy] at hpk
  have e2 : y.1 = kl := WideAt.sameKey_eq hpk
  rw [e2] at e1
  obtain ⟨q, hq, hqe⟩ := key_inv e1
  rw [hqe, key_some hq] at e1
  have e3 := Option.some.inj e1
  apply Classical.byContradiction
  intro hn
  have h4 := h3 q hq (fun b hb e => hn ⟨b, hb, by rw [e, e3]⟩)
  rw [e3, h] at h4
  cases h4
section
variable (w : World) {ops : Array Oper} {rest : List Oper} {o : Oper} {a : Act} {Q : Exit → Act → World → Prop}
/-- 'range m'. -/
theorem wpList_range_pl (hg : o.guard = none) (mo : Operand) (hop : o.op = Op.range 85 mo) (m : Nat) (L : List (Pl × Rw)) (hm : a.eval mo = .map (some m)) (h : MapAt w m L) (hn : (L.map (·.1)).Nodup)
    (hK : ∀ w', MapRg w' m w.heap.size L L L.length → w.grownBy w' none → w'.heap.size = w.heap.size + 1 → wpList Tryz.prog ops Q rest (a.put o.dst (.pointer (some ⟨w.heap.size, 0, none⟩))) w') :
    wpList Tryz.prog ops Q (o :: rest) a w := by
  obtain ⟨h0, D, ho, h1, h2, h3⟩ := h
  refine wpList_range_own w hg mo 85 hop 105 135 keyK u85 RQ m L.length D hm ho ?_
  intro w' hr hg' hs
  refine hK w' ⟨h0, fun b hb => hb, hn, hn, D, has D, L.length, h1 ▸ hr, h1, h2, h3, fun kl => ⟨fun hk => ?_, fun ⟨b, hb, e⟩ => ?_⟩⟩ hg' hs
  · exact MapAt.keys ho h3 hk
  · rw [← e]; exact (h2 b hb).1
/-- The step: nothing is left, or a place has come. -/
theorem wpList_next_pl (hg : o.guard = none) (it : Operand) (hop : o.op = Op.next it false) (m r : Nat) (L todo : List (Pl × Rw)) (cnt : Nat) (hit : a.eval it = .pointer (some ⟨r, 0, none⟩)) (h : MapRg w m r L todo cnt)
    (hDone : todo = [] → wpList Tryz.prog ops Q rest (a.put o.dst (.tuple #[.bool false])) w)
    (hMore : ∀ (p : Pl) (v : Rw) (todo' : List (Pl × Rw)) (w' : World) (cnt' : Nat), todo.Perm ((p, v) :: todo') → MapRg w' m r L todo' cnt' → cnt' < cnt → w.grownBy w' (some r) → w'.heap.size = w.heap.size → (Instr.entry (.pointer (some ⟨r, 0, none⟩))).run Tryz.prog w' = .ok (.tuple #[plV p, rwV v]) w' →
      wpList Tryz.prog ops Q rest (a.put o.dst (.tuple #[.bool true, plV p, rwV v])) w') :
    wpList Tryz.prog ops Q (o :: rest) a w := by
  obtain ⟨h0, h1, h2, h3, D, left, n, hrg, hs, h4, h5, h6⟩ := h
  refine wpList_next_ranges w hg it hop 105 keyK RQ plV (fun c : Option Addr × Nat × Nat => .slice c.1 c.2.1 c.2.2) (fun key kl hk => ?_) (fun v y hv => ?_) m r n D left cnt hit hrg ?_ ?_
  · obtain ⟨x, _, e⟩ := key_inv hk
    exact ⟨x, e⟩
  · unfold RQ at hv
    split at hv
    · exact ⟨(none, 0, 0), rfl⟩
    · rename_i ad n c
      exact ⟨(some ad, n, c), rfl⟩
    · cases hv
  · intro _ hl
    refine hDone ?_
    rcases todo with _ | ⟨b, t⟩
    · rfl
    · have := (h6 (klP b.1)).2 ⟨b, List.mem_cons_self .., rfl⟩
      rw [hl] at this
      cases this
  · intro x c kl y w' cnt' hk hl hv hat hrg' hlt hgr hsz hen
    obtain ⟨b, hb, hbk⟩ := (h6 kl).1 hl
    have hbo := h0 b (h1 b hb)
    have ex : x = b.1 := by
      obtain ⟨x', hx', e⟩ := key_inv hk
      have ev : plV x = plV b.1 := keyK.inj hk (by rw [key_some hbo, hbk])
      have := ev
      simp [plV] at this
      cases x; cases hb1 : b.1
      rw [hb1] at this
      simp_all
    subst ex
    have e2 := (h4 b (h1 b hb)).2
    rw [hbk, hat] at e2
    have ev : Value.slice c.1 c.2.1 c.2.2 = rwV b.2 := RQ_row_inv (ps := y.2) (by rw [hv, ← e2])
    rw [ev] at hen ⊢
    obtain ⟨t1, t2, rfl⟩ := List.append_of_mem hb
    have hp : (t1 ++ b :: t2).Perm (b :: (t1 ++ t2)) := List.perm_middle
    have hnd := (hp.map (·.1)).nodup_iff.1 h3
    rw [List.map_cons, List.nodup_cons] at hnd
    refine hMore b.1 b.2 (t1 ++ t2) w' cnt' hp ⟨h0, fun c hc => h1 c (hp.mem_iff.2 (List.mem_cons_of_mem _ hc)), h2, hnd.2, D, _, n, hrg', hs, h4, h5, fun z => ?_⟩ hlt hgr hsz hen
    rw [Bool.and_eq_true, h6, Bool.not_eq_true']
    constructor
    · rintro ⟨⟨d, hd, e⟩, hne⟩
      rcases List.mem_cons.1 (hp.mem_iff.1 hd) with rfl | hd
      · rw [← e, ← hbk, WideAt.sameKey_self (kl_key hbo)] at hne
        cases hne
      · exact ⟨d, hd, e⟩
    · rintro ⟨d, hd, e⟩
      have hd' := hp.mem_iff.2 (List.mem_cons_of_mem b hd)
      refine ⟨⟨d, hd', e⟩, ?_⟩
      refine sameKey_ne (fun e3 => ?_)
      rw [← e, ← hbk] at e3
      have := kl_inj (h0 d (h1 d hd')) hbo e3
      exact hnd.1 (List.mem_map.2 ⟨d, hd, this⟩)
end
/-- A place is deleted that has come already. -/
theorem MapRg.drop {w : World} {m r cnt : Nat} {L todo : List (Pl × Rw)} (h : MapRg w m r L todo cnt) (b : Pl × Rw) (L' : List (Pl × Rw)) (hp : L.Perm (b :: L')) (hb : ∀ c ∈ todo, c.1 ≠ b.1) (ty : TypeId) :
    ∃ w' cnt', (Builtin.delete_ #[85, 105] ty #[.map (some m), plV b.1]).run Tryz.prog w = .ok (.tuple #[]) w' ∧ MapRg w' m r L' todo cnt' ∧ cnt' ≤ cnt ∧ w.mapTurned w' m := by
  obtain ⟨h0, h1, h2, h3, D, left, n, hrg, hs, h4, h5, h6⟩ := h
  have hbo := h0 b (hp.mem_iff.2 (List.mem_cons_self ..))
  obtain ⟨w', cnt', hrun, hrg', hle, ht⟩ := hrg.drop keyK u85 (key_some hbo) ty
  have hnd := (hp.map (·.1)).nodup_iff.1 h2
  rw [List.map_cons, List.nodup_cons] at hnd
  have hD := hrg.owns.tidy keyK
  have hsz : size (D.del (klP b.1)) = L'.length := by
    have := size_del (k := klP b.1) hD
    rw [(h4 b (hp.mem_iff.2 (List.mem_cons_self ..))).1, hs, hp.length_eq] at this
    simpa using this
  have hne : ∀ c ∈ L', klP c.1 ≠ klP b.1 := fun c hc e => hnd.1 (List.mem_map.2 ⟨c, hc, kl_inj (h0 c (hp.mem_iff.2 (List.mem_cons_of_mem _ hc))) hbo e⟩)
  refine ⟨w', cnt', hrun, ⟨fun c hc => h0 c (hp.mem_iff.2 (List.mem_cons_of_mem _ hc)), fun c hc => ?_, hnd.2, h3, D.del (klP b.1), _, n, hrg', hsz, fun c hc => ?_, fun x hx hnx => ?_, fun kl => ?_⟩, hle, ht⟩
  · rcases List.mem_cons.1 (hp.mem_iff.1 (h1 c hc)) with rfl | h
    · exact absurd rfl (hb c hc)
    · exact h
  · rw [has_del_other (hne c hc), atKey_del_other (hne c hc)]
    exact h4 c (hp.mem_iff.2 (List.mem_cons_of_mem _ hc))
  · by_cases e : klP x = klP b.1
    · rw [e]
      exact has_del_same
    · rw [has_del_other e]
      refine h5 x hx (fun c hc => ?_)
      rcases List.mem_cons.1 (hp.mem_iff.1 hc) with rfl | hc
      · intro e'
        exact e (by rw [e'])
      · exact hnx c hc
  · rw [Bool.and_eq_true, h6, Bool.not_eq_true']
    constructor
    · exact fun h => h.1
    · rintro ⟨d, hd, e⟩
      refine ⟨⟨d, hd, e⟩, sameKey_ne (fun e3 => ?_)⟩
      rw [← e] at e3
      exact hb d hd (kl_inj (h0 d (h1 d hd)) hbo e3)
end Go.Proofs.YtfojblbnhapedaaGreatDoor
