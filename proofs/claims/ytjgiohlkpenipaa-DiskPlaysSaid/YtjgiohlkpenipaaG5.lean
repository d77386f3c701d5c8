/- What Copy has made, in plain words. Conditions: as each theorem states them. -/
import Derived.Test.YtjgiohlkpenipaaG4
namespace Go.Proofs.Ytjgiohlkpenipaa
open Go.RowKit Go.Maps
set_option linter.unusedVariables false
set_option linter.unusedSimpArgs false

theorem own_set {W : World} {B g n c k : Nat} {xs : List Value} (h : W.ownsRow B 68 3 (.slice (some ⟨g, 0, none⟩) n c) n xs) (u : Value) : (W.setCell ⟨g, k, none⟩ u).ownsRow B 68 3 (.slice (some ⟨g, 0, none⟩) n c) n (xs.set k u) := by
  refine ⟨by rw [List.length_set]; exact h.1, ?_⟩
  rcases h.2 with ⟨h0, _⟩ | ⟨g', c', cur, h0, h1, h2, h3, h4, h5, h6⟩
  · cases h0
  · cases h0
    refine .inr ⟨g, c, cur.setIfInBounds k u, rfl, h1, set_heap h2, h3, h4, by simpa using h5, ?_⟩
    rw [← h6, Array.toList_setIfInBounds]
    exact List.take_set
theorem own_cells {W : World} {B g n c : Nat} {xs : List Value} (h : W.ownsRow B 68 3 (.slice (some ⟨g, 0, none⟩) n c) n xs) : g < W.heap.size ∧ B ≤ g ∧ (∀ k u, xs[k]? = some u → W.cell? ⟨g, k, none⟩ = some u) ∧ (∀ k, W.frozen? ⟨g, k, none⟩ = false) ∧ n ≤ c := by
  rcases h.2 with ⟨h0, _⟩ | ⟨g', c', cur, h0, h1, h2, h3, h4, h5, h6⟩
  · cases h0
  · cases h0
    refine ⟨(Array.getElem?_eq_some_iff.1 h2).1, h1, fun k u hu => ?_, fun k => froz_of h2 k, h3⟩
    rw [← h6] at hu
    have hj := (List.getElem?_eq_some_iff.1 hu).1
    rw [List.length_take] at hj
    rw [List.getElem?_take_of_lt (by omega), Array.getElem?_toList] at hu
    exact (cell_of h2 k).trans hu
/-- The changes' cells when i of them have been turned to the new files. -/
def mixC (tw : List (Nat × Nat)) (L : Lay) (i : Nat) (l : List Ch) : List Value := wcells (nbk tw L) (l.take i) ++ wcells L.bk (l.drop i)
theorem mixC_zero (tw : List (Nat × Nat)) (L : Lay) (l : List Ch) : mixC tw L 0 l = wcells L.bk l := rfl
theorem mixC_all (tw : List (Nat × Nat)) (L : Lay) (l : List Ch) : mixC tw L l.length l = wcells (nbk tw L) l := by simp [mixC, wcells]
theorem mixC_split (tw : List (Nat × Nat)) (L : Lay) {i : Nat} {l : List Ch} (h : i < l.length) : mixC tw L i l = wcells (nbk tw L) (l.take i) ++ ([.string (l.getD i zeroC).frm, .string (l.getD i zeroC).to, chP L.bk (l.getD i zeroC)] ++ wcells L.bk (l.drop (i + 1))) := by
  unfold mixC
  rw [List.drop_eq_getElem_cons h, List.getD_eq_getElem?_getD, List.getElem?_eq_getElem h]
  rfl
theorem mixC_at (tw : List (Nat × Nat)) (L : Lay) {i : Nat} {l : List Ch} (h : i < l.length) : (mixC tw L i l)[i * 3 + 2]? = some (chP L.bk (l.getD i zeroC)) := by
  have e : (wcells (nbk tw L) (l.take i)).length = i * 3 := by rw [wcells_len, List.length_take]; omega
  rw [mixC_split tw L h, List.getElem?_append_right (by omega), e]
  simp
theorem mixC_set (tw : List (Nat × Nat)) (L : Lay) {i : Nat} {l : List Ch} (h : i < l.length) : (mixC tw L i l).set (i * 3 + 2) (chP (nbk tw L) (l.getD i zeroC)) = mixC tw L (i + 1) l := by
  have e : (wcells (nbk tw L) (l.take i)).length = i * 3 := by rw [wcells_len, List.length_take]; omega
  have e2 : l.take (i + 1) = l.take i ++ [l.getD i zeroC] := by
    rw [List.take_succ_eq_append_getElem h, List.getD_eq_getElem?_getD, List.getElem?_eq_getElem h]
    rfl
  rw [mixC_split tw L h, List.set_append_right _ _ (by omega), e]
  unfold mixC
  rw [e2, wcells_snoc, List.append_assoc]
  congr 1
  simp
theorem wcells_congr {bk bk' : Nat → Nat} {l : List Ch} (h : ∀ c ∈ l, c.to ≠ ByteArray.empty → bk' c.fi = bk c.fi) : wcells bk' l = wcells bk l := by
  unfold wcells
  induction l with
  | nil => rfl
  | cons c l ih =>
    rw [List.flatMap_cons, List.flatMap_cons, ih (fun d hd => h d (List.mem_cons_of_mem _ hd))]
    congr 1
    unfold chP
    split
    · rfl
    · rename_i ht
      rw [h c (List.mem_cons_self ..) ht]
theorem mixC_grows {tw tw' : List (Nat × Nat)} {L : Lay} {i : Nat} {l : List Ch} (g : Grows tw tw') (h : ∀ c ∈ l.take i, c.to ≠ ByteArray.empty → ∃ b, twl tw (L.bk c.fi) = some b) : mixC tw' L i l = mixC tw L i l := by
  unfold mixC
  rw [wcells_congr (fun c hc ht => by
    obtain ⟨b, hb⟩ := h c hc ht
    exact nbk_grows g hb)]
theorem pair_inj {tw : List (Nat × Nat)} (hnv : (tw.map Prod.snd).Nodup) {x y b : Nat} (h1 : (x, b) ∈ tw) (h2 : (y, b) ∈ tw) : x = y := by
  induction tw with
  | nil => cases h1
  | cons p tw ih =>
    rw [List.map_cons, List.nodup_cons] at hnv
    rcases List.mem_cons.1 h1 with e1 | h1
    · rcases List.mem_cons.1 h2 with e2 | h2
      · rw [← e1] at e2
        exact (Prod.mk.inj e2).1.symm
      · exact absurd (List.mem_map.2 ⟨_, h2, by rw [← e1]⟩) hnv.1
    · rcases List.mem_cons.1 h2 with e2 | h2
      · exact absurd (List.mem_map.2 ⟨_, h1, by rw [← e2]⟩) hnv.1
      · exact ih hnv.2 h1 h2
/-- The copy's cells. -/
def qcells (s : DS) (m2 m3 : Nat) (v : Value) : Array Value := #[.int .i64 s.room, .int .i64 s.steps, .int .i64 s.fuse, .bool s.down, .map (some m2), .map (some m3), v]
structure Cq (w0 : World) (L : Lay) (s : DS) (W : World) (O m c cf m2 m3 : Nat) (v : Value) (tw : List (Nat × Nat)) (i : Nat) : Prop where
  cp : Cp w0 L s W m tw
  bx : Box W c (.map (some m)) 81
  bf : Box W cf (twinF c) 82
  o : W.heap[O]? = some (Obj.cells (qcells s m2 m3 v) 60)
  od : ∃ D, MapAt W m2 s.dir (nbk tw L) D
  hd : ∀ p ∈ s.dir, ∃ b, twl tw (L.bk p.2) = some b
  oq : ∃ D, MapAt W m3 s.kept (nbk tw L) D
  hq : ∀ p ∈ s.kept, ∃ b, twl tw (L.bk p.2) = some b
  row : W.ownsRow w0.heap.size 68 3 v s.waits.length (mixC tw L i s.waits)
  hw : ∀ c ∈ s.waits.take i, c.to ≠ ByteArray.empty → ∃ b, twl tw (L.bk c.fi) = some b
  n2 : m < m2
  n3 : m2 < m3
  nO : w0.heap.size ≤ O
section
variable {w0 : World} {L : Lay} {s : DS} {W W' : World} {O m c cf m2 m3 : Nat} {v : Value} {tw tw' : List (Nat × Nat)} {i : Nat}
theorem Cq.call (h : Cq w0 L s W O m c cf m2 m3 v tw i) (cp : Cp w0 L s W' m tw') (g : Grows tw tw') (k : Kw (fun x => x = m) W W') : Cq w0 L s W' O m c cf m2 m3 v tw' i := by
  obtain ⟨es, cl, h1, _⟩ := h.cp.t
  have hne : ∀ {b cs t fz}, W.heap[b]? = some (Obj.cells cs t fz) → ¬ b = m := fun {b cs t fz} hb e => by
    rw [e, h1] at hb
    cases hb
  have hn2 := h.n2
  have hn3 := h.n3
  refine ⟨cp, h.bx.kw k (hne h.bx), h.bf.kw k (hne h.bf), (k.block O (Array.getElem?_eq_some_iff.1 h.o).1 (hne h.o)).trans h.o, ?_, fun p hp => ?_, ?_, fun p hp => ?_, ?_, fun d hd ht => ?_, hn2, hn3, h.nO⟩
  · obtain ⟨D, hD⟩ := h.od
    exact ⟨D, (hD.fn (fun p hp => by obtain ⟨b, hb⟩ := h.hd p hp; exact nbk_grows g hb)).kw k (by omega)⟩
  · obtain ⟨b, hb⟩ := h.hd p hp
    exact ⟨b, g _ _ hb⟩
  · obtain ⟨D, hD⟩ := h.oq
    exact ⟨D, (hD.fn (fun p hp => by obtain ⟨b, hb⟩ := h.hq p hp; exact nbk_grows g hb)).kw k (by omega)⟩
  · obtain ⟨b, hb⟩ := h.hq p hp
    exact ⟨b, g _ _ hb⟩
  · rw [mixC_grows g h.hw]
    exact own_kw h.row k (fun b hb => by
      obtain ⟨_, cur, h3⟩ := own_blk h.row hb
      exact hne h3)
  · obtain ⟨b, hb⟩ := h.hw d hd ht
    exact ⟨b, g _ _ hb⟩
theorem Cq.store {g n cc : Nat} (h : Cq w0 L s W O m c cf m2 m3 (.slice (some ⟨g, 0, none⟩) n cc) tw i) (hn : s.waits.length = n) (hi : i < n) (hx : (s.waits.getD i zeroC).to ≠ ByteArray.empty → ∃ b, twl tw (L.bk (s.waits.getD i zeroC).fi) = some b) :
    Cq w0 L s (W.setCell ⟨g, i * 3 + 2, none⟩ (chP (nbk tw L) (s.waits.getD i zeroC))) O m c cf m2 m3 (.slice (some ⟨g, 0, none⟩) n cc) tw (i + 1) := by
  have hrow := h.row
  rw [hn] at hrow
  have hil : i < s.waits.length := by omega
  obtain ⟨hB, cur, hg⟩ := own_blk hrow (g := g) rfl
  have k : Kw (fun b => b = g) W (W.setCell ⟨g, i * 3 + 2, none⟩ (chP (nbk tw L) (s.waits.getD i zeroC))) := (Kw.refl (fun b => b = g) W).setCell (p := ⟨g, i * 3 + 2, none⟩) rfl _
  have hnm : ∀ {b es cl}, W.heap[b]? = some (Obj.map es cl) → ¬ b = g := fun {b es cl} hb e => by
    rw [e, hg] at hb
    cases hb
  have hnt : ∀ {b cs t fz}, W.heap[b]? = some (Obj.cells cs t fz) → t ≠ 68 → ¬ b = g := fun {b cs t fz} hb ht e => by
    rw [e, hg] at hb
    cases hb
    exact ht rfl
  refine ⟨h.cp.kw k (fun b e => ?_), h.bx.kw k (hnt h.bx (by decide)), h.bf.kw k (hnt h.bf (by decide)), (k.block O (Array.getElem?_eq_some_iff.1 h.o).1 (hnt h.o (by decide))).trans h.o, ?_, h.hd, ?_, h.hq, ?_, fun d hd ht => ?_, h.n2, h.n3, h.nO⟩
  · subst e
    refine ⟨hB, fun e => ?_, fun p hp e => ?_⟩
    · obtain ⟨es, cl, h1, _⟩ := h.cp.t
      exact hnm h1 e.symm
    · obtain ⟨j, _, _, h3⟩ := h.cp.old p hp
      exact hnt h3 (by decide) e
  · obtain ⟨D, hD⟩ := h.od
    obtain ⟨es, cl, h1⟩ := hD.heap
    exact ⟨D, hD.kw k (hnm h1)⟩
  · obtain ⟨D, hD⟩ := h.oq
    obtain ⟨es, cl, h1⟩ := hD.heap
    exact ⟨D, hD.kw k (hnm h1)⟩
  · rw [← mixC_set tw L hil, hn]
    exact own_set hrow _
  · rw [List.take_succ_eq_append_getElem hil] at hd
    rcases List.mem_append.1 hd with hd | hd
    · exact h.hw d hd ht
    · obtain rfl := List.mem_singleton.1 hd
      rw [List.getD_eq_getElem?_getD, List.getElem?_eq_getElem hil] at hx
      exact hx ht
theorem Cq.done (h : Cq w0 L s W O m c cf m2 m3 v tw s.waits.length) (hd : DAt w0 L s) : Dk W O s w0.heap.size := by
  have hrow := h.row
  rw [mixC_all] at hrow
  have hall : ∀ i, s.has i → ∃ b, twl tw (L.bk i) = some b := fun i hi => by
    rcases hi with ⟨n, hi⟩ | ⟨n, hi⟩ | ⟨d, hdw, ht, rfl⟩
    · exact h.hd _ hi
    · exact h.hq _ hi
    · exact h.hw d (by rw [List.take_length]; exact hdw) ht
  have hn2 := h.n2
  have hn3 := h.n3
  have hm := h.cp.m
  refine ⟨⟨O, m2, m3, nbk tw L, v⟩, rfl, ⟨h.o, h.od, h.oq, ⟨hrow.1, ?_⟩, fun i hi => ?_, fun i j hi hj e => ?_, ?_, hd.okw⟩, fun b hb => ?_⟩
  · rcases hrow.2 with h0 | ⟨g, c, cur, h0, h1, r⟩
    · exact .inl h0
    · exact .inr ⟨g, c, cur, h0, Nat.zero_le _, r⟩
  · obtain ⟨b, hb⟩ := hall i hi
    obtain ⟨j, h1, h2, h3⟩ := h.cp.old _ (twl_mem hb)
    obtain rfl := hd.inj i j hi h1 h2
    show FileAt W (nbk tw L i) _ ∧ _
    rw [nbk_eq hb]
    exact ⟨h3, (hd.file i hi).2⟩
  · obtain ⟨b, hb⟩ := hall i hi
    obtain ⟨b', hb'⟩ := hall j hj
    have e : nbk tw L i = nbk tw L j := e
    rw [nbk_eq hb, nbk_eq hb'] at e
    subst e
    apply hd.inj i j hi hj
    have h1 := twl_mem hb
    have h2 := twl_mem hb'
    have hnv := h.cp.nv
    exact pair_inj hnv h1 h2
  · show m2 ≠ m3
    omega
  · rcases hb with e | e | e | ⟨i, hi, e⟩ | hg
    · have e : b = O := e
      have := h.nO
      omega
    · have e : b = m2 := e
      omega
    · have e : b = m3 := e
      omega
    · have hi : s.has i := hi
      obtain ⟨b', hb⟩ := hall i hi
      have e : b = nbk tw L i := e
      rw [e, nbk_eq hb]
      exact h.cp.new _ (twl_mem hb)
    · exact (own_blk hrow hg).1
theorem twin_ch (hd : DAt w0 L s) (h : Cp w0 L s W m tw) (hc : Box W c (.map (some m)) 81) {d : Ch} (hm : d ∈ s.waits) :
    Calls Try.prog 50 #[chP L.bk d, ptrV c] W fun r W' => ∃ tw', r = .returned (chP (nbk tw' L) d) ∧ Cp w0 L s W' m tw' ∧ Grows tw tw' ∧ (d.to ≠ ByteArray.empty → ∃ b, twl tw' (L.bk d.fi) = some b) ∧ Kw (fun x => x = m) W W' := by
  by_cases ht : d.to = ByteArray.empty
  · have e : ∀ bk, chP bk d = .pointer none := fun bk => by unfold chP; rw [if_pos ht]
    rw [e]
    refine (twin_nil W m c tw hc h.t).mono ?_
    rintro r W' ⟨rfl, rfl⟩
    exact ⟨tw, by rw [e], h, Grows.refl _, fun h => absurd ht h, Kw.refl _ _⟩
  · have e : ∀ bk, chP bk d = ptrV (bk d.fi) := fun bk => by unfold chP; rw [if_neg ht]
    rw [e]
    refine (twin_cp hd h hc (.inr (.inr ⟨d, hm, ht, rfl⟩))).mono ?_
    rintro r W' ⟨tw', b, rfl, h1, h2, h3, _, h4⟩
    exact ⟨tw', by rw [e, nbk_eq h2], h1, h3, fun _ => ⟨b, h2⟩, h4⟩
end
end Go.Proofs.Ytjgiohlkpenipaa
