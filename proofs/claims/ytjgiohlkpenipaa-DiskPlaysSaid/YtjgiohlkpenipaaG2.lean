/- Contract of Copy's both. Conditions: as each theorem states them. -/
import Derived.Test.YtjgiohlkpenipaaG0
namespace Go.Proofs.Ytjgiohlkpenipaa
open Go.RowKit Go.Maps
set_option linter.unusedVariables false
set_option linter.unusedSimpArgs false

/-- What twin leaves: nothing new, or one new file. -/
def TwR (w w' : World) (m a : Nat) (f : Fl) (tw : List (Nat × Nat)) (b : Nat) (tw' : List (Nat × Nat)) : Prop :=
  (tw' = tw ∧ twl tw a = some b) ∨ (tw' = tw ++ [(a, b)] ∧ twl tw a = none ∧ w.heap.size ≤ b ∧ FileAt w' b f)
set_option maxRecDepth 100000 in
set_option maxHeartbeats 4000000 in
theorem twin_old (w : World) (m c a b : Nat) (tw : List (Nat × Nat)) (f : Fl) (hc : Box w c (.map (some m)) 81) (ht : TwAt w m tw) (hk : ∀ p ∈ tw, ∃ f, FileAt w p.1 f) (hf : FileAt w a f) (hn : twl tw a = some b) :
    Calls Try.prog 50 #[ptrV a, ptrV c] w fun r w' => r = .returned (ptrV b) ∧ w = w' := by
  have c0 := hc.cell
  have l0 := hc.lt
  have hlk0 := ht.look hk hf
  rw [hn] at hlk0
  have hlk : (Instr.lookup 81 (.map (some m)) (ptrV a) false).run Try.prog w = .ok (ptrV b) w := hlk0
  clear hc ht hk hf hn hlk0
  unfold ptrV at *
  go_enter Try.func50, Try.ntmps50
  go_wp2_with (fail)
  go_ret
  exact ⟨rfl, rfl⟩
set_option maxRecDepth 100000 in
set_option maxHeartbeats 4000000 in
theorem twin_nil (w : World) (m c : Nat) (tw : List (Nat × Nat)) (hc : Box w c (.map (some m)) 81) (ht : TwAt w m tw) :
    Calls Try.prog 50 #[.pointer none, ptrV c] w fun r w' => r = .returned (.pointer none) ∧ w = w' := by
  have c0 := hc.cell
  have l0 := hc.lt
  have hlk := ht.lookNil
  clear hc ht
  unfold ptrV at *
  go_enter Try.func50, Try.ntmps50
  go_wp2_with (fail)
  go_ret
  exact ⟨rfl, rfl⟩
theorem twl_snoc {tw : List (Nat × Nat)} {a b : Nat} (h : twl tw a = none) : twl (tw ++ [(a, b)]) a = some b := by
  unfold twl at *
  rw [List.find?_append, Option.map_eq_none_iff.1 h]
  simp
theorem twl_mono {tw : List (Nat × Nat)} {a b x y : Nat} (h : twl tw x = some y) : twl (tw ++ [(a, b)]) x = some y := by
  unfold twl at *
  obtain ⟨p, hp, rfl⟩ := Option.map_eq_some_iff.1 h
  rw [List.find?_append, hp]
  simp
theorem twl_mem {tw : List (Nat × Nat)} {a b : Nat} (h : twl tw a = some b) : (a, b) ∈ tw := by
  unfold twl at h
  obtain ⟨p, hp, rfl⟩ := Option.map_eq_some_iff.1 h
  have h1 := List.find?_some hp
  simp at h1
  subst h1
  exact List.mem_of_find?_eq_some hp
set_option maxRecDepth 100000 in
set_option maxHeartbeats 4000000 in
theorem twin_new (w : World) (m c a : Nat) (tw : List (Nat × Nat)) (f : Fl) (hc : Box w c (.map (some m)) 81) (ht : TwAt w m tw) (hk : ∀ p ∈ tw, ∃ f, FileAt w p.1 f) (hf : FileAt w a f) (hn : twl tw a = none) :
    Calls Try.prog 50 #[ptrV a, ptrV c] w fun r w' => r = .returned (ptrV w.heap.size) ∧ TwAt w' m (tw ++ [(a, w.heap.size)]) ∧ FileAt w' w.heap.size f ∧ Kw (fun x => x = m) w w' := by
  have c0 := hc.cell
  have l0 := hc.lt
  have lm := ht.lt
  have f0 := hf.cells.1
  have f1 := hf.cells.2
  have fl := hf.lt
  have hlk0 := ht.look hk hf
  rw [hn] at hlk0
  have hlk : (Instr.lookup 81 (.map (some m)) (ptrV a) false).run Try.prog w = .ok (.pointer none) w := hlk0
  have hb := bl_alloc (Below.refl w.heap.size w) (Obj.cells #[.string f.data, .int .i64 f.sure] 66)
  obtain ⟨w2, hrun, ht2, hk2, hs2⟩ := (ht.below hb).put (fun p hp => by obtain ⟨g, hg⟩ := hk p hp; exact ⟨g, hg.kw (Kw.ofBelow (S := fun _ => False) hb) (fun h => h)⟩) (hf.kw (Kw.ofBelow (S := fun _ => False) hb) (fun h => h)) hn w.heap.size
  have hne : ¬ c = m := fun e => by
    obtain ⟨es, cl, h1, _⟩ := ht
    have h2 : w.heap[c]? = _ := hc
    rw [e, h1] at h2
    cases h2
  have c2 := ((hc.below hb).kw hk2 hne).cell
  have hfn : FileAt w2 w.heap.size f := (show FileAt (w.alloc (Obj.cells #[.string f.data, .int .i64 f.sure] 66)) w.heap.size f from new_heap w _).kw hk2 (by omega)
  have hlk20 := ht2.look (fun p hp => by
    rcases List.mem_append.1 hp with hp | hp
    · obtain ⟨g, hg⟩ := hk p hp
      exact ⟨g, (hg.kw (Kw.ofBelow (S := fun _ => False) hb) (fun h => h)).kw hk2 (fun e => by
        obtain ⟨es, cl, h1, _⟩ := ht
        have h2 : w.heap[p.1]? = _ := hg
        rw [e, h1] at h2
        cases h2)⟩
    · obtain rfl := List.mem_singleton.1 hp
      exact ⟨f, (hf.kw (Kw.ofBelow (S := fun _ => False) hb) (fun h => h)).kw hk2 (fun e => by
        obtain ⟨es, cl, h1, _⟩ := ht
        have h2 : w.heap[a]? = _ := hf
        rw [e, h1] at h2
        cases h2)⟩) ((hf.kw (Kw.ofBelow (S := fun _ => False) hb) (fun h => h)).kw hk2 (fun e => by
        obtain ⟨es, cl, h1, _⟩ := ht
        have h2 : w.heap[a]? = _ := hf
        rw [e, h1] at h2
        cases h2))
  rw [twl_snoc hn] at hlk20
  have hlk2 : (Instr.lookup 81 (.map (some m)) (ptrV a) false).run Try.prog w2 = .ok (ptrV w.heap.size) w2 := hlk20
  have HRUN := Lib.hid hrun
  have HT := Lib.hid (And.intro ht2 (And.intro hfn ((Kw.ofBelow (S := fun x => x = m) hb).trans hk2)))
  have l2 : c < w2.heap.size := by rw [hs2]; have := hb.size; omega
  have hcl : (w.alloc (Obj.cells #[.string f.data, .int .i64 f.sure] 66)).cell? ⟨c, 0, none⟩ = some (.map (some m)) := (hc.below hb).cell
  clear hc ht hk hf hn hlk0 hrun hlk20 ht2 hfn hk2 hb hs2
  unfold ptrV at *
  go_enter Try.func50, Try.ntmps50
  go_wp2_with (at_mapUpdate; refine wpList_mapUpdate_run rfl _ _ _ 81 rfl _ _ _ rfl rfl rfl rfl HRUN.out ?_)
  go_ret
  exact ⟨rfl, HT.out⟩
end Go.Proofs.Ytjgiohlkpenipaa
namespace Go.Proofs.Ytjgiohlkpenipaa
open Go.RowKit Go.Maps
set_option linter.unusedVariables false
set_option linter.unusedSimpArgs false

theorem ranges_kw {w w' : World} {S : Nat → Prop} {b r n cnt : Nat} {D : DataW Unit} {left : Go.Lit → Bool} (h : w.ranges Try.prog 9 RQ b r n D left cnt) (k : Kw S w w') (hb' : ¬ S b) (hr' : ¬ S r) : w'.ranges Try.prog 9 RQ b r n D left cnt := by
  have h1 := h.owns.lt
  have h2 := h.lt
  obtain ⟨es, clock, since, seen, c0, hb, F, hs, hD, hr, rest⟩ := h
  exact ⟨es, clock, since, seen, c0, (k.block b h1 hb').trans hb, F, hs, hD, (k.block r h2 hr').trans hr, rest⟩
/-- What a copy of the disk s at L, begun in w0, has made so far: the map m from old files to new ones. -/
structure Cp (w0 : World) (L : Lay) (s : DS) (W : World) (m : Nat) (tw : List (Nat × Nat)) : Prop where
  b : Below w0.heap.size w0 W
  t : TwAt W m tw
  m : w0.heap.size ≤ m
  old : ∀ p ∈ tw, ∃ i, s.has i ∧ p.1 = L.bk i ∧ FileAt W p.2 (s.file i)
  new : ∀ p ∈ tw, w0.heap.size ≤ p.2
  nv : (tw.map Prod.snd).Nodup
theorem Cp.kw {w0 : World} {L : Lay} {s : DS} {W W' : World} {m : Nat} {tw : List (Nat × Nat)} {S : Nat → Prop} (h : Cp w0 L s W m tw) (k : Kw S W W') (hS : ∀ b, S b → w0.heap.size ≤ b ∧ b ≠ m ∧ ∀ p ∈ tw, p.2 ≠ b) : Cp w0 L s W' m tw := by
  refine ⟨?_, h.t.kw k (fun e => (hS _ e).2.1 rfl), h.m, fun p hp => ?_, h.new, h.nv⟩
  · exact h.b.trans (k.below h.b.size (fun b e => (hS b e).1))
  · obtain ⟨i, h1, h2, h3⟩ := h.old p hp
    exact ⟨i, h1, h2, h3.kw k (fun e => (hS _ e).2.2 p hp rfl)⟩
theorem Cp.below {w0 : World} {L : Lay} {s : DS} {W W' : World} {m : Nat} {tw : List (Nat × Nat)} (h : Cp w0 L s W m tw) (k : Below W.heap.size W W') : Cp w0 L s W' m tw := h.kw (Kw.ofBelow (S := fun _ => False) k) (fun _ e => e.elim)
/-- More has been made. -/
def Grows (tw tw' : List (Nat × Nat)) : Prop := ∀ x y, twl tw x = some y → twl tw' x = some y
theorem Grows.refl (tw : List (Nat × Nat)) : Grows tw tw := fun _ _ h => h
theorem Grows.trans {a b c : List (Nat × Nat)} (h : Grows a b) (h2 : Grows b c) : Grows a c := fun x y e => h2 x y (h x y e)
theorem Cp.file {w0 : World} {L : Lay} {s : DS} {W : World} {m : Nat} {tw : List (Nat × Nat)} (h : Cp w0 L s W m tw) (hd : DAt w0 L s) : ∀ p ∈ tw, ∃ f, FileAt W p.1 f := fun p hp => by
  obtain ⟨i, h1, h2, _⟩ := h.old p hp
  rw [h2]
  exact ⟨_, ((hd.file i h1).1.kw (Kw.ofBelow (S := fun _ => False) h.b) (fun e => e))⟩
theorem twin_cp {w0 : World} {L : Lay} {s : DS} {W : World} {m c : Nat} {tw : List (Nat × Nat)} (hd : DAt w0 L s) (h : Cp w0 L s W m tw) (hc : Box W c (.map (some m)) 81) {i : Nat} (hi : s.has i) :
    Calls Try.prog 50 #[ptrV (L.bk i), ptrV c] W fun r W' => ∃ tw' b, r = .returned (ptrV b) ∧ Cp w0 L s W' m tw' ∧ twl tw' (L.bk i) = some b ∧ Grows tw tw' ∧ (∀ p ∈ tw', p ∈ tw ∨ W.heap.size ≤ p.2) ∧ Kw (fun x => x = m) W W' := by
  have hf := ((hd.file i hi).1.kw (Kw.ofBelow (S := fun _ => False) h.b) (fun e => e))
  cases hn : twl tw (L.bk i) with
  | some b =>
    refine (twin_old W m c _ b tw _ hc h.t (h.file hd) hf hn).mono ?_
    rintro r W' ⟨rfl, rfl⟩
    exact ⟨tw, b, rfl, h, hn, Grows.refl _, fun p hp => .inl hp, Kw.refl _ _⟩
  | none =>
    refine (twin_new W m c _ tw _ hc h.t (h.file hd) hf hn).mono ?_
    rintro r W' ⟨rfl, h1, h2, h3⟩
    have hlt : ∀ p ∈ tw, p.2 < W.heap.size := fun p hp => by
      obtain ⟨j, _, _, h5⟩ := h.old p hp
      exact h5.lt
    refine ⟨_, _, rfl, ⟨?_, h1, h.m, fun p hp => ?_, fun p hp => ?_, ?_⟩, twl_snoc hn, fun x y e => twl_mono e, fun p hp => ?_, h3⟩
    · exact h.b.trans (h3.below h.b.size (fun b e => by rw [e]; exact h.m))
    · rcases List.mem_append.1 hp with hp | hp
      · obtain ⟨j, h4, h5, h6⟩ := h.old p hp
        exact ⟨j, h4, h5, h6.kw h3 (fun e => by
          obtain ⟨es, cl, h7, _⟩ := h.t
          have h8 : W.heap[p.2]? = _ := h6
          rw [e, h7] at h8
          cases h8)⟩
      · obtain rfl := List.mem_singleton.1 hp
        exact ⟨i, hi, rfl, h2⟩
    · rcases List.mem_append.1 hp with hp | hp
      · exact h.new p hp
      · obtain rfl := List.mem_singleton.1 hp
        exact h.b.size
    · rw [List.map_append]
      refine List.nodup_append.2 ⟨h.nv, by simp, ?_⟩
      intro x hx y hy e
      obtain ⟨p, hp, rfl⟩ := List.mem_map.1 hx
      have := hlt p hp
      simp at hy
      omega
    · rcases List.mem_append.1 hp with hp | hp
      · exact .inl hp
      · obtain rfl := List.mem_singleton.1 hp
        exact .inr (Nat.le_refl _)
/-- Where the new files lie. -/
def nbk (tw : List (Nat × Nat)) (L : Lay) (i : Nat) : Nat := (twl tw (L.bk i)).getD 0
theorem nbk_eq {tw : List (Nat × Nat)} {L : Lay} {i b : Nat} (h : twl tw (L.bk i) = some b) : nbk tw L i = b := by unfold nbk; rw [h]; rfl
theorem nbk_grows {tw tw' : List (Nat × Nat)} {L : Lay} {i b : Nat} (g : Grows tw tw') (h : twl tw (L.bk i) = some b) : nbk tw' L i = nbk tw L i := by rw [nbk_eq h, nbk_eq (g _ _ h)]
theorem rest_mem {left : Go.Lit → Bool} {l : Dir} {x : ByteArray} {i : Nat} (hnd : (l.map Prod.fst).Nodup) (hm : (x, i) ∈ l) (hl : left (klS x) = true) : (restOf left l).Perm ((x, i) :: restOf (fun z => left z && !z.sameKey (klS x)) l) := by
  induction l with
  | nil => cases hm
  | cons p l ih =>
    rw [List.map_cons, List.nodup_cons] at hnd
    rcases List.mem_cons.1 hm with e | hm
    · subst e
      have h1 : restOf (fun z => left z && !z.sameKey (klS x)) ((x, i) :: l) = restOf left l := by
        unfold restOf
        rw [List.filter_cons_of_neg (by simp [same_kl])]
        apply List.filter_congr
        intro q hq
        have : q.1 ≠ x := fun e => hnd.1 (List.mem_map.2 ⟨q, hq, e⟩)
        simp [same_kl, this]
      rw [h1]
      unfold restOf
      rw [List.filter_cons_of_pos (by simpa using hl)]
    · have hne : p.1 ≠ x := fun e => hnd.1 (List.mem_map.2 ⟨_, hm, e.symm⟩)
      have ih := ih hnd.2 hm
      by_cases hp : left (klS p.1) = true
      · have h1 : restOf left (p :: l) = p :: restOf left l := List.filter_cons_of_pos (p := fun q : ByteArray × Nat => left (klS q.1)) (a := p) (l := l) hp
        have h2 : restOf (fun z => left z && !z.sameKey (klS x)) (p :: l) = p :: restOf (fun z => left z && !z.sameKey (klS x)) l := by
          unfold restOf
          rw [List.filter_cons_of_pos (by simp [same_kl, hp, hne])]
        rw [h1, h2]
        exact (ih.cons p).trans (List.Perm.swap _ _ _)
      · have h1 : restOf left (p :: l) = restOf left l := List.filter_cons_of_neg (p := fun q : ByteArray × Nat => left (klS q.1)) (a := p) (l := l) hp
        have h2 : restOf (fun z => left z && !z.sameKey (klS x)) (p :: l) = restOf (fun z => left z && !z.sameKey (klS x)) l := by
          unfold restOf
          rw [List.filter_cons_of_neg (by simp [hp])]
        rw [h1, h2]
        exact ih
theorem rest_has {w : World} {m : Nat} {l : Dir} {bk : Nat → Nat} {D : DataW Unit} (h : MapAt w m l bk D) : restOf (has D) l = l := by
  unfold restOf
  exact List.filter_eq_self.2 (fun p hp => (h.at_ p hp).1)
theorem rest_nil {l : Dir} {left : Go.Lit → Bool} (h : ∀ kl, left kl = false) : restOf left l = [] := by
  unfold restOf
  exact List.filter_eq_nil_iff.2 (fun p hp => by simp [h])
end Go.Proofs.Ytjgiohlkpenipaa
