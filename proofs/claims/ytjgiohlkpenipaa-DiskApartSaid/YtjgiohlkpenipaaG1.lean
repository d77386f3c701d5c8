/- Contract of Copy's twin. Conditions: as each theorem states them. -/
import Derived.Test.YtjgiohlkpenipaaG0
namespace Go.Proofs.Ytjgiohlkpenipaa
open Go.RowKit Go.Maps
set_option linter.unusedVariables false
set_option linter.unusedSimpArgs false

/-- What twin leaves: nothing new, or one new file. -/
def TwR (w w' : World) (m a : Nat) (f : Fl) (tw : List (Nat × Nat)) (b : Nat) (tw' : List (Nat × Nat)) : Prop :=
  (tw' = tw ∧ twl tw a = some b) ∨ (tw' = tw ++ [(a, b)] ∧ twl tw a = none ∧ w.heap.size ≤ b ∧ FileAt w' b f)
set_option maxRecDepth 100000 in
set_option maxHeartbeats 4000000 in
theorem twin_old (w : World) (m c a b : Nat) (tw : List (Nat × Nat)) (f : Fl) (hc : Box w c (.map (some m)) 81) (ht : TwAt w m tw) (hk : ∀ p ∈ tw, ∃ f, FileAt w p.1 f) (hf : FileAt w a f) (hn : twl tw a = some b) :
    Calls Try.prog 50 #[ptrV a, ptrV c] w fun r w' => r = .returned (ptrV b) ∧ w = w' := by
  have c0 := hc.cell
  have l0 := hc.lt
  have hlk0 := ht.look hk hf
  rw [hn] at hlk0
  have hlk : (Instr.lookup 81 (.map (some m)) (ptrV a) false).run Try.prog w = .ok (ptrV b) w := hlk0
  clear hc ht hk hf hn hlk0
  unfold ptrV at *
  go_enter Try.func50, Try.ntmps50
  go_wp2_with (fail)
  go_ret
  exact ⟨rfl, rfl⟩
set_option maxRecDepth 100000 in
set_option maxHeartbeats 4000000 in
theorem twin_nil (w : World) (m c : Nat) (tw : List (Nat × Nat)) (hc : Box w c (.map (some m)) 81) (ht : TwAt w m tw) :
    Calls Try.prog 50 #[.pointer none, ptrV c] w fun r w' => r = .returned (.pointer none) ∧ w = w' := by
  have c0 := hc.cell
  have l0 := hc.lt
  have hlk := ht.lookNil
  clear hc ht
  unfold ptrV at *
  go_enter Try.func50, Try.ntmps50
  go_wp2_with (fail)
  go_ret
  exact ⟨rfl, rfl⟩
theorem twl_snoc {tw : List (Nat × Nat)} {a b : Nat} (h : twl tw a = none) : twl (tw ++ [(a, b)]) a = some b := by
  unfold twl at *
  rw [List.find?_append, Option.map_eq_none_iff.1 h]
  simp
theorem twl_mono {tw : List (Nat × Nat)} {a b x y : Nat} (h : twl tw x = some y) : twl (tw ++ [(a, b)]) x = some y := by
  unfold twl at *
  obtain ⟨p, hp, rfl⟩ := Option.map_eq_some_iff.1 h
  rw [List.find?_append, hp]
  simp
theorem twl_mem {tw : List (Nat × Nat)} {a b : Nat} (h : twl tw a = some b) : (a, b) ∈ tw := by
  unfold twl at h
  obtain ⟨p, hp, rfl⟩ := Option.map_eq_some_iff.1 h
  have h1 := List.find?_some hp
  simp at h1
  subst h1
  exact List.mem_of_find?_eq_some hp
set_option maxRecDepth 100000 in
set_option maxHeartbeats 4000000 in
theorem twin_new (w : World) (m c a : Nat) (tw : List (Nat × Nat)) (f : Fl) (hc : Box w c (.map (some m)) 81) (ht : TwAt w m tw) (hk : ∀ p ∈ tw, ∃ f, FileAt w p.1 f) (hf : FileAt w a f) (hn : twl tw a = none) :
    Calls Try.prog 50 #[ptrV a, ptrV c] w fun r w' => r = .returned (ptrV w.heap.size) ∧ TwAt w' m (tw ++ [(a, w.heap.size)]) ∧ FileAt w' w.heap.size f ∧ Kw (fun x => x = m) w w' := by
  have c0 := hc.cell
  have l0 := hc.lt
  have lm := ht.lt
  have f0 := hf.cells.1
  have f1 := hf.cells.2
  have fl := hf.lt
  have hlk0 := ht.look hk hf
  rw [hn] at hlk0
  have hlk : (Instr.lookup 81 (.map (some m)) (ptrV a) false).run Try.prog w = .ok (.pointer none) w := hlk0
  have hb := bl_alloc (Below.refl w.heap.size w) (Obj.cells #[.string f.data, .int .i64 f.sure] 66)
  obtain ⟨w2, hrun, ht2, hk2, hs2⟩ := (ht.below hb).put (fun p hp => by obtain ⟨g, hg⟩ := hk p hp; exact ⟨g, hg.kw (Kw.ofBelow (S := fun _ => False) hb) (fun h => h)⟩) (hf.kw (Kw.ofBelow (S := fun _ => False) hb) (fun h => h)) hn w.heap.size
  have hne : ¬ c = m := fun e => by
    obtain ⟨es, cl, h1, _⟩ := ht
    have h2 : w.heap[c]? = _ := hc
    rw [e, h1] at h2
    cases h2
  have c2 := ((hc.below hb).kw hk2 hne).cell
  have hfn : FileAt w2 w.heap.size f := (show FileAt (w.alloc (Obj.cells #[.string f.data, .int .i64 f.sure] 66)) w.heap.size f from new_heap w _).kw hk2 (by omega)
  have hlk20 := ht2.look (fun p hp => by
    rcases List.mem_append.1 hp with hp | hp
    · obtain ⟨g, hg⟩ := hk p hp
      exact ⟨g, (hg.kw (Kw.ofBelow (S := fun _ => False) hb) (fun h => h)).kw hk2 (fun e => by
        obtain ⟨es, cl, h1, _⟩ := ht
        have h2 : w.heap[p.1]? = _ := hg
        rw [e, h1] at h2
        cases h2)⟩
    · obtain rfl := List.mem_singleton.1 hp
      exact ⟨f, (hf.kw (Kw.ofBelow (S := fun _ => False) hb) (fun h => h)).kw hk2 (fun e => by
        obtain ⟨es, cl, h1, _⟩ := ht
        have h2 : w.heap[a]? = _ := hf
        rw [e, h1] at h2
        cases h2)⟩) ((hf.kw (Kw.ofBelow (S := fun _ => False) hb) (fun h => h)).kw hk2 (fun e => by
        obtain ⟨es, cl, h1, _⟩ := ht
        have h2 : w.heap[a]? = _ := hf
        rw [e, h1] at h2
        cases h2))
  rw [twl_snoc hn] at hlk20
  have hlk2 : (Instr.lookup 81 (.map (some m)) (ptrV a) false).run Try.prog w2 = .ok (ptrV w.heap.size) w2 := hlk20
  have HRUN := Lib.hid hrun
  have HT := Lib.hid (And.intro ht2 (And.intro hfn ((Kw.ofBelow (S := fun x => x = m) hb).trans hk2)))
  have l2 : c < w2.heap.size := by rw [hs2]; have := hb.size; omega
  have hcl : (w.alloc (Obj.cells #[.string f.data, .int .i64 f.sure] 66)).cell? ⟨c, 0, none⟩ = some (.map (some m)) := (hc.below hb).cell
  clear hc ht hk hf hn hlk0 hrun hlk20 ht2 hfn hk2 hb hs2
  unfold ptrV at *
  go_enter Try.func50, Try.ntmps50
  go_wp2_with (at_mapUpdate; refine wpList_mapUpdate_run rfl _ _ _ 81 rfl _ _ _ rfl rfl rfl rfl HRUN.out ?_)
  go_ret
  exact ⟨rfl, HT.out⟩
end Go.Proofs.Ytjgiohlkpenipaa
